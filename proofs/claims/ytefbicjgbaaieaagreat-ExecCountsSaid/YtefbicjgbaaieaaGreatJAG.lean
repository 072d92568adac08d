/-
  internal/reflectlite's Swapper over trees: the function literal that it hands back changes two rows of a list of one's own (the kit's law of it, lifted).
  No condition: a library text; nothing of the program is named.
-/
import Derived.Test.YtefbicjgbaaieaaGreatJAF
import Derived.Shelf.SlSortCmp.NoneTotal
import Derived.Lib.ReflectliteSwap
import Derived.Lib.ReflectliteSlice
set_option maxHeartbeats 8000000
namespace Go.Vx
open Go Go.Shelf Go.Sort Go.Proofs
structure SE (s:Nat) where
 n:Int
 t:List UInt8
 rest:List Value
 len:rest.length+2=s
 one: ∀v∈rest,v.oneCell'=true
def SE.enc {s:Nat} (x:SE s):List Value:= .int .i64 x.n:: .string ⟨x.t.toArray⟩::x.rest
def SE.key {s:Nat} (x:SE s):Int×List UInt8:=(x.n,x.t)
@[instance_reducible] def wg4 {s:Nat} (h:2<=s):Inhabited (SE s):=⟨⟨0,[],List.replicate (s - 2) (.int .i64 0),by simp;omega,fun v hv=>by
 rw[List.eq_of_mem_replicate hv];rfl⟩⟩
theorem SE.enc_len {s:Nat} (x:SE s):x.enc.length=s:=by simp[SE.enc,<-x.len]
theorem SE.enc_one {s:Nat} (x:SE s): ∀v∈x.enc,v.oneCell'=true:=fun v hv=>by
 simp only[SE.enc,Af]at hv
 rcases hv with rfl|rfl|hv
 .rfl
 .rfl
 .exact x.one v hv
theorem All2.perm_r {α β:Type} {R:α->β->Prop} {ds ab:List β} (hp:ds.Perm ab): ∀{xs:List α},All2 R xs ds-> ∃aa,xs.Perm aa/\All2 R aa ab:=by
 induction hp with
 |nil=>intro xs h;cases xs with
  |nil=>exact⟨[],.refl _,tV⟩
  |cons _ _=>exact h.elim
 |cons d _ ih=>
  intro xs h
  cases xs with
  |nil=>exact h.elim
  |cons x xs=>
   obtain⟨aa,h1,h2⟩:=ih h.2
   exact⟨x::aa,h1.cons x,h.1,h2⟩
 |swap a b l=>
  intro xs h
  match xs,h with
  |x::y::xs,h=>exact⟨y::x::xs,.swap y x xs,h.2.1,h.1,h.2.2⟩
  | [_],h=>exact h.2.elim
  | [],h=>exact h.elim
 |trans _ _ ad ae=>
  intro xs h
  obtain⟨ag,h1,h2⟩:=ad h
  obtain⟨af,h3,h4⟩:=ae h2
  exact⟨af,h1.trans h3,h4⟩
theorem All2.split {α β:Type} {R:α->β->Prop}: ∀{l l':List α} {m:List β},All2 R (l++l') m-> ∃m1 m2,m=m1++m2/\All2 R l m1/\All2 R l' m2
 | [],l',m,h=>⟨[],m,rfl,tV,h⟩
 |a::l,l',[],h=>h.elim
 |a::l,l',b::m,h=>by
  obtain⟨m1,m2,rfl,h1,h2⟩:=All2.split h.2
  exact⟨b::m1,m2,rfl,⟨h.1,h1⟩,h2⟩
section
variable {P:Program} {c:Ctx} {w:World} {L:Nat->Nat} {σ:St} {β:List Value}
theorem yO2 {s:Nat} {X:Type} {f:X->List V} {kx:X->Int×List UInt8} (hf: ∀x,∃rest,f x= .int .i64 (kx x).1:: .str (kx x).2::rest/\rest.length+2=s):
  ∀(xs:List X) (aa:List Value),All2 (RdC w L σ β) ((xs.map f).flatten) aa-> ∃ds:List (SE s),ds.flatMap SE.enc=aa/\All2 (fun x d=>All2 (RdC w L σ β) (f x) d.enc/\d.key=kx x) xs ds
 | [],aa,h=>by
  cases aa with
  |nil=>exact⟨[],rfl,tV⟩
  |cons _ _=>exact h.elim
 |x::xs,aa,h=>by
  rw[Ai,De]at h
  obtain⟨m1,m2,rfl,h1,h2⟩:=All2.split h
  obtain⟨ds,h3,h4⟩:=yO2 hf xs m2 h2
  obtain⟨rest,hr,hl⟩:=hf x
  have ab:=h1
  rw[hr]at h1
  match m1,h1 with
  |v1::v2::vr,⟨a1,a2,a3⟩=>
   have e1:v1= .int .i64 (kx x).1:=yK (RdS.of_cell a1)
   have e2:v2= .string ⟨(kx x).2.toArray⟩:=za3 (RdS.of_cell a2)
   subst e1 e2
   have hlen:=a3.length
   refine⟨⟨(kx x).1,(kx x).2,vr,om,fun v hv=> ?_⟩::ds, ?_,⟨?_,rfl⟩,h4⟩
   .obtain⟨q,_,hq⟩:=a3.mem_r hv
    exact hq.oneCell
   .rw[C8,h3];rfl
   .exact ab
  | [],h1=>exact h1.elim
  | [_],⟨_,h1⟩=>exact h1.elim
theorem xn4 {W w':World} {L0 L':Nat->Nat} {σ':St} {β':List Value} (h:Mem (entry W L0 [] []) w' L' σ' β'): ∃q aa,w'=Sort.grow (W.drewN q) aa:=by
 refine⟨w'.drawn - W.drawn,w'.heap.extract W.heap.size w'.heap.size, ?_⟩
 have h1:w'.heap=W.heap++w'.heap.extract W.heap.size w'.heap.size:=by
  have hs:W.heap.size<=w'.heap.size:=h.size
  apply Array.ext
  .simp;omega
  .intro i hi ab
   by_cases q:i<W.heap.size
   .have:=(h.same i q (by simp[entry,zk0])).1
    have e1:w'.heap[i]? =some w'.heap[i]:=B0 hi
    have e2:W.heap[i]? =some W.heap[i]:=B0 q
    rw[Array.getElem_append_left q]
    have this:w'.heap[i]? =W.heap[i]? :=this
    rw[e1,e2]at this
    exact Option.some.inj this
   .rw[Array.getElem_append_right om]
    simp only[Array.getElem_extract]
    congr 1;omega
 have h2:w'.os=W.os:=h.os
 have h3:w'.tape=W.tape:=h.tape
 have h4:w'.output=W.output:=h.output
 have h5:W.drawn<=w'.drawn:=h.drawn
 obtain⟨hp,tp,dr,os,out⟩:=w'
 simp only at h1 h2 h3 h4 h5
 unfold Sort.grow World.drewN
 simp only
 rw[<-h1,<-h2,<-h3,<-h4,show W.drawn+(dr - W.drawn)=dr by omega]
theorem Mem.ahead (h:Mem c w L σ β) (n:Nat):Mem c (Sort.ahead w n) L σ β/\Le w L (Sort.ahead w n) L:=by
 have hle:Le w L (Sort.ahead w n) L:=⟨fun _=>A4 _,fun _ _ _=>rfl⟩
 refine⟨⟨h.len,fun i o x hi hx=>(h.objs i o x hi hx).step hle (Ext.refl _ _) fun b hb=>⟨rfl,rfl⟩,h.apart,h.mine,h.same,h.le.trans hle,h.size,h.os,h.tape,h.output,B3 h.drawn (Nat.le_add_right _ _),h.lim,h.ext,h.tab⟩,hle⟩
theorem Mem.grow (h:Mem c w L σ β) (os:Array Go.Obj):Mem c (Sort.grow w os) L σ β/\Le w L (Sort.grow w os) L:=by
 have hb: ∀b,b<w.heap.size->(Sort.grow w os).heap[b]? =w.heap[b]? :=fun b hb=>by
  show(w.heap++os)[b]? =_
  rw[Dp hb]
 have hle:Le w L (Sort.grow w os) L:=by
  refine⟨fun _=>A4 _,fun b o ho=> ?_⟩
  have:b<w.heap.size:=by
   rcases C1 b w.heap.size with q|q
   .exact q
   .rw[h.lim b q]at ho;omega
  exact zd7 (hb b this) o
 refine⟨⟨h.len,fun i o x hi hx=>(h.objs i o x hi hx).step hle (Ext.refl _ _) fun b ab=>⟨hb b ((h.objs i o x hi hx).excl_lt ab),rfl⟩,h.apart,h.mine,fun b aa hx=> ?_,h.le.trans hle, ?_,h.os,h.tape,h.output,h.drawn,fun b aa=> ?_,h.ext,h.tab⟩,hle⟩
 .have:=h.same b aa hx
  exact⟨(hb b (Dj aa h.size)).trans this.1,this.2⟩
 .have:(Sort.grow w os).heap.size=w.heap.size+os.size:=by show(w.heap++os).size=_;simp
  rw[this];exact B3 h.size (Nat.le_add_right _ _)
 .have:(Sort.grow w os).heap.size=w.heap.size+os.size:=by show(w.heap++os).size=_;simp
  rw[this]at aa
  exact h.lim b om
theorem yA3 {b:Nat} {arr:Array Value} {T:TypeId} {fz:Nat×Nat} (h:w.heap[b]? =some (.cells arr T fz)) (f:Array Value->Array Value):mapBlock w b f=yM w b (.cells (f arr) T fz):=by
 have hb:b<w.heap.size:=(Cg.1 h).1
 have hx:w.heap[b]'hb= .cells arr T fz:=by
  rw[B0 hb]at h
  exact Option.some.inj h
 unfold mapBlock yM
 congr 1
 apply Array.ext
 .simp
 .intro i h1 h2
  rw[Array.getElem_modify,Array.getElem_setIfInBounds]
  .by_cases q:b=i
   .subst q
    rw[if_pos rfl,if_pos rfl,hx]
    rfl
   .rw[if_neg q,if_neg q]
theorem yb8 (F arr:Array Value) (h:F.size<=arr.size):Go.Sort.putCells id 0 F arr=xF arr 0 F.toList:=by
 unfold Go.Sort.putCells
 apply Array.ext
 .simp[xG]
 .intro i h1 h2
  have hi:i<arr.size:=sU h1
  have hs:=zg1 F.toList arr 0 i (sU h)
  rw[B0 h2]at hs
  by_cases q:i<F.size
  .rw[if_pos (sU q)]at hs
   simp only[Nat.sub_zero,Aq,B0 q,Option.some.injEq]at hs
   rw[hs,Array.getElem_mapIdx]
   simp[q]
  .rw[if_neg (sU q),B0 hi,Option.some.injEq]at hs
   rw[hs,Array.getElem_mapIdx]
   simp[q]
theorem yi6 {s:Nat} (hs:0<s) [Inhabited (SE s)] (d:Array (SE s)):(Go.Sort.flatK SE.enc s d).toList=d.toList.flatMap SE.enc:=by
 have hu: ∀r∈d.toList.map SE.enc,r.length=s:=fun r hr=>by
  obtain⟨x,_,rfl⟩:=Ad.1 hr
  exact x.enc_len
 have aa:d.toList.flatMap SE.enc=(d.toList.map SE.enc).flatten:=List.flatMap_def ..
 have ab:(d.toList.map SE.enc).flatten.length=d.size*s:=by rw[yA hu];simp
 rw[aa]
 apply Bn
 intro t
 rw[Aq]
 by_cases ht:t<d.size*s
 .have h1:t<(Go.Sort.flatK SE.enc s d).size:=by rw[size_flatK];exact ht
  have h2:=get_flatK SE.enc s d t ht
  rw[getElem!_pos _ t h1]at h2
  rw[B0 h1,h2]
  have hq:t/s<d.size:=Nat.div_lt_of_lt_mul (by rw[Du];exact ht)
  have hr:t%s<s:=Cn _ hs
  have h3:=yN (rows:=d.toList.map SE.enc) (t/s) (t%s) hu hr
  rw[show t/s*s+t%s=t by rw[Du];exact Cz t s]at h3
  rw[h3,B6,Aq,B0 hq,getElem!_pos d _ hq]
  simp only[Bg,Ar]
  have hl:t%s<(SE.enc d[t/s]).length:=by rw[SE.enc_len];exact hr
  rw[A0 hl,getElem!_pos (SE.enc d[t/s]) (t%s) hl]
 .rw[Array.getElem?_eq_none (by rw[size_flatK];omega),D6 om]
theorem xh3 {s:Nat} {X:Type} {f:X->List V} {p:X->SE s->Prop}: ∀{xs:List X} {ds:List (SE s)},All2 (fun x d=>All2 (RdC w L σ β) (f x) d.enc/\p x d) xs ds->All2 (RdC w L σ β) (xs.map f).flatten (ds.flatMap SE.enc)
 | [],[],_=>trivial
 |x::xs,d::ds,h=>by
  rw[Ai,De,C8]
  exact All2.append h.1.1 (xh3 h.2)
 | [],_::_,h=>h.elim
 |_::_,[],h=>h.elim
theorem xq2 {ρ:Ren} (La:SlLaysF0.n6 P ρ) {s:Nat} (hs:2<=s) (aE: ∀w,(isAgg (ρ.t 24)).run P w= .ok true w) (zE: ∀w,(Go.sizeOf (ρ.t 24)).run P w= .ok s w) {gf:Nat} (hgb:wL P gf=true)
  {C:Int×List UInt8->Int×List UInt8->Int} (hO:SWO fun a b=>decide (C a b<0))
  (hg: ∀x y:Int×List UInt8,Pure P gf [.agg (.int .i64 x.1:: .str x.2::List.replicate (s - 2) .u),.agg (.int .i64 y.1:: .str y.2::List.replicate (s - 2) .u)] (.int .i64 (C x y)))
  {X:Type} {f:X->List V} {kx:X->Int×List UInt8} (hf: ∀x,∃rest,f x= .int .i64 (kx x).1:: .str (kx x).2::rest/\rest.length+2=s) {id:Nat} {xs:List X}
  (hm:Mem c w L σ β) (hσ:σ[id]? =some (.lst (xs.map f) s)) (hlen:xs.length<4611686018427387904) {v:Value} (hv:RdS w L σ β (.lsv id s xs.length 0 xs.length) v):
  Calls P (ρ.f 6) #[v,.func (.func gf) #[] #[]] w fun e w'=>e= .returned (.tuple #[])/\ ∃xs',xs.Perm xs'/\xs'.Pairwise (fun a b=> ¬C (kx b) (kx a)<0)/\
   Mem c w' L (σ.set id (.lst (xs'.map f) s)) β/\Le w L w' L/\Ext σ β (σ.set id (.lst (xs'.map f) s)) β:=by
 haveI:=wg4 hs
 obtain⟨a,cap,rfl,⟨hc1,_⟩,_,hv⟩:=hv
 rcases hv with hd|⟨rows,hσ',hn,hb⟩
 .rw[hσ]at hd;cases hd
 rw[hσ]at hσ'
 obtain rfl:xs.map f=rows:=by cases hσ';rfl
 obtain⟨bb,c0,hβ,hcap,_,hblk⟩:=hb sM
 have hsσ:σ.set id (.lst (xs.map f) s)=σ:=yI σ id _ hσ
 by_cases hx0:xs.length=0
 .obtain rfl:xs= []:=B4 hx0
  refine(AnyF.slices_SortFunc_none (P:=P) (ρ:=ρ) La a cap (.func (.func gf) #[] #[]) w).mono ?_
  rintro e w' ⟨rfl,rfl⟩
  exact⟨rfl,[],.refl _,List.Pairwise.nil,by rw[hsσ];exact hm,Le.refl _ _,by rw[hsσ];exact Ext.refl _ _⟩
 have hc0:0<c0:=om
 obtain⟨k,rfl,rfl⟩:=hblk hc0
 obtain⟨a',cap',e,hncap,hs0,hu,hok⟩:=hm.objs id _ _ hσ hβ
 simp only[An]at e
 cases e
 obtain⟨b',arr,T,fz,e,hh,hfz,hsz,hL,hall⟩:=hok hc0
 cases e
 have hkl:k<w.heap.size:=(Cg.1 hh).1
 simp only[An]at hncap hall
 obtain⟨ds,hds,hrel⟩:=yO2 hf xs _ hall
 have hdl:=hrel.length
 have hns:xs.length*s<=arr.size:=B3 (Ah s hncap) hsz
 have hflk:=yi6 om ds.toArray
 have hszd:ds.toArray.size=xs.length:=by simp[hdl]
 have hH:HoldsK SE.enc s w k 0 ds.toArray:=by
  intro j hj
  rw[size_flatK,hszd]at hj
  have h1:(Go.Sort.flatK SE.enc s ds.toArray).toList[j]? =arr[j]? :=by
   rw[hflk,hds,Aw,if_pos hj,Aq]
  have hja:j<arr.size:=om
  have hjf:j<(Go.Sort.flatK SE.enc s ds.toArray).size:=by rw[size_flatK,hszd];exact hj
  rw[Aq,B0 hjf,B0 hja,Option.some.injEq]at h1
  refine⟨?_, ?_⟩
  .rw[getElem!_pos _ j hjf,h1]
   simp[World.cell?,hh,hja]
  .have:=hfz.1 j hja
   simp[World.frozen?,hh]
   omega
 obtain⟨fn,hfn,hname,hbody⟩:=zD7 hgb
 have eg: ∀args w,(callFunc gf args).run P w= .ok (.enter gf args) w:=fun args w=>by
  have hbn: ¬fn.body=none:=by intro q;simp[q]at hbody
  have hne: ¬fn.name= "runtime.NumGoroutine" :=sU hname
  simp[callFunc,hfn,hne,hbn]
 let cf:SE s->SE s->Int:=fun x y=>C x.key y.key
 have hOc:SWO (ltOf cf):=⟨fun x=>hO.irrefl _,fun x y z=>hO.trans _ _ _,fun x y z=>hO.ntrans _ _ _⟩
 have rdK: ∀(W:World) (x:SE s),RdS W L [] [] (.agg (.int .i64 x.key.1:: .str x.key.2::List.replicate (s - 2) .u)) (.agg x.enc.toArray):=fun W x=>by
  refine⟨x.enc,rfl,RdC.of_pure (.int _ _),RdC.of_pure (.str _), ?_⟩
  have hl:x.rest.length=s - 2:=by have:=x.len;omega
  rw[<-hl]
  have ho:=x.one
  generalize x.rest=r at ho
  induction r with
  |nil=>trivial
  |cons v r ih=>exact⟨ho v sM,ih fun u hu=>ho u (by simp[hu])⟩
 have hcmp:CmpLays P gf #[] SE.enc s cf k 0 ds.toArray.size w:=by
  intro m os dk _ x y
  generalize hW:sortWorldK SE.enc s w k 0 m dk os=W
  have hsame: ∀b,b≠k->b<w.heap.size->W.heap[b]? =w.heap[b]? :=fun b hb hbl=>by
   rw[<-hW]
   show((putRowK SE.enc s (Sort.ahead w m) k 0 dk).heap++os)[b]? =_
   have hsz1:(putRowK SE.enc s (Sort.ahead w m) k 0 dk).heap.size=w.heap.size:=by unfold putRowK;rw[Go.Sort.size_putRow];rfl
   rw[Dp (by rw[hsz1];exact hbl)]
   show(w.heap.modify k _)[b]? =_
   rw[Array.getElem?_modify,if_neg (fun q=>hb q.symm)]
  have hszW:w.heap.size<=W.heap.size:=by
   rw[<-hW]
   show _<=((putRowK SE.enc s (Sort.ahead w m) k 0 dk).heap++os).size
   have hsz1:(putRowK SE.enc s (Sort.ahead w m) k 0 dk).heap.size=w.heap.size:=by unfold putRowK;rw[Go.Sort.size_putRow];rfl
   rw[Array.size_append,hsz1];omega
  have hleW:Le w L W L:=by
   refine⟨fun _=>A4 _,fun b o ho=> ?_⟩
   have hne:b≠k:=fun q=>by subst q;rw[hL]at ho;omega
   have:b<w.heap.size:=by
    rcases C1 b w.heap.size with q|q
    .exact q
    .rw[hm.lim b q]at ho;omega
   exact zd7 (hsame b hne this) o
  have hmW:Mem (entry W L [] []) W L [] []:=
   ⟨rfl,fun i o x ho _=>by simp at ho,fun i j o o' x x' b _ ho _ _ _ _=>by simp at ho,fun i o x b ho _ _=>by simp at ho,fun b _ _=>⟨rfl,rfl⟩,Le.refl _ _,A4 _,rfl,rfl,rfl,A4 _,fun b hb=>hm.lim b (B3 hszW hb),Ext.refl _ _,(hm.tab.mono hm.le).mono hleW⟩
  have hcall:=hg x.key y.key W L [] [.agg x.enc.toArray,.agg y.enc.toArray] hmW ⟨rdK W x,rdK W y,tV⟩
  have e1:(#[.agg x.enc.toArray,.agg y.enc.toArray]++ #[]:Array Value)= [Value.agg x.enc.toArray,Value.agg y.enc.toArray].toArray:=sM
  rw[e1]
  refine hcall.mono ?_
  rintro e w' ⟨v,r,L',σ',β',rfl,⟨rfl,rfl⟩,_,hm',hrd⟩
  exact⟨by rw[yK hrd],xn4 hm'⟩
 rw[D2,<-hszd]
 refine(AnyQ.slices_SortFunc (P:=P) (ρ:=ρ) La s aE zE SE.enc (fun x=>x.enc_len) (fun x=>x.enc_one) cf hOc gf #[] k 0 cap ds.toArray w eg hcmp hH hkl (by rw[hszd];exact hlen)).mono ?_
 rintro e w' ⟨rfl,d',nn,os,⟨hsz',_,hpm⟩,hsorted,rfl⟩
 have hd'l:d'.toList.length=xs.length:=by rw[Cl,hsz',hszd]
 have hpm:d'.toList.Perm ds:=by
  have e1:d'.extract 0 ds.toArray.size=d':=by rw[<-hsz'];simp
  have e2:ds.toArray.extract 0 ds.toArray.size=ds.toArray:=sM
  rw[e1,e2]at hpm
  exact hpm
 obtain⟨xs',hp1,hrel'⟩:=All2.perm_r hpm.symm hrel
 have hxl:=hp1.length_eq
 refine⟨rfl,xs',hp1, ?_, ?_⟩
 .rw[List.pairwise_iff_getElem]
  intro i j hi hj hij
  have hi':i<d'.size:=by rw[hsz',hszd];omega
  have hj':j<d'.size:=by rw[hsz',hszd];omega
  have h1:=hsorted i j (A3 _) hij (by rw[hszd];omega)
  rw[getElem!_pos d' i hi',getElem!_pos d' j hj']at h1
  have key: ∀(q:Nat) (hq:q<xs'.length) (hq':q<d'.size),d'[q].key=kx xs'[q]:=fun q hq hq'=>by
   obtain⟨b,hb,r⟩:=hrel'.get q _ (A0 hq)
   rw[Aq,B0 hq',Option.some.injEq]at hb
   rw[hb];exact r.2
  have h2:decide (C d'[j].key d'[i].key<0)=false:=h1
  rw[key i hi hi',key j hj hj']at h2
  exact of_decide_eq_false h2
 .obtain⟨hm1,hle1⟩:=hm.ahead nn
  have hu2:uni s (xs'.map f):=fun r hr=>by
   obtain⟨x,_,rfl⟩:=Ad.1 hr
   obtain⟨rest,h1,h2⟩:=hf x
   rw[h1];simp;omega
  have hfl1:=yA hu
  have hfl2:=yA hu2
  have hv2:All2 (RdC (Sort.ahead w nn) L σ β) (xs'.map f).flatten (d'.toList.flatMap SE.enc):=(xh3 hrel').imp fun _ _=>RdC.mono hle1 (Ext.refl _ _)
  have hput:(xs'.map f).flatten=putCells (xs.map f).flatten 0 (xs'.map f).flatten:=by
   unfold putCells
   rw[List.take_zero,Bi,C3 (by rw[hfl1,Ae,hfl2];simp[hxl]),B9]
  obtain⟨arr2,T2,fz2,h1,_,h3,h4,h5,h6⟩:=hm1.lstPut (off:=0) hσ hβ hc0 hv2 (A3 _) hu2 hput (by simp[hxl]) (by simp only[An];omega)
  have h1':w.heap[k]? =some (.cells arr2 T2 fz2):=h1
  rw[hh]at h1'
  cases h1'
  have hβs:β.set id (.slice (some ⟨k,0,none⟩) (xs'.map f).length c0)=β:=yI β id _ (by rw[hβ];simp[hxl])
  rw[hβs]at h4 h6
  have hfd:=yi6 om d'
  have hput2:putRowK SE.enc s (Sort.ahead w nn) k 0 d'=yM (Sort.ahead w nn) k (.cells (xF arr 0 (d'.toList.flatMap SE.enc)) T fz):=by
   unfold putRowK Go.Sort.putRow
   rw[yA3 (w:=Sort.ahead w nn) hh,yb8 _ _ (by rw[size_flatK,hsz',hszd];exact hns),hfd]
  obtain⟨h7,h8⟩:=h4.grow os
  unfold sortWorldK
  rw[hput2]
  exact⟨h7,hle1.trans (h5.trans h8),h6⟩
theorem yQ4 {ρ:Ren} (La:SlLaysF0.n6 P ρ) {F:Nat} (hF:ρ.f 6=F) (ae:wL P F=true) {s:Nat} (hs:2<=s) (aE: ∀w,(isAgg (ρ.t 24)).run P w= .ok true w) (zE: ∀w,(Go.sizeOf (ρ.t 24)).run P w= .ok s w) {gf:Nat} (af:wL P gf=true)
  {C:Int×List UInt8->Int×List UInt8->Int} (hO:SWO fun a b=>decide (C a b<0))
  (hg: ∀x y:Int×List UInt8,Pure P gf [.agg (.int .i64 x.1:: .str x.2::List.replicate (s - 2) .u),.agg (.int .i64 y.1:: .str y.2::List.replicate (s - 2) .u)] (.int .i64 (C x y)))
  {X:Type} {f:X->List V} {kx:X->Int×List UInt8} (hf: ∀x,∃rest,f x= .int .i64 (kx x).1:: .str (kx x).2::rest/\rest.length+2=s) {id:Nat} (xs:List X)
  (hσ:σ[id]? =some (.lst (xs.map f) s)) (hlen:xs.length<4611686018427387904) {K:V->St->Prop}
  (hk: ∀aa,xs.Perm aa->aa.Pairwise (fun a b=> ¬C (kx b) (kx a)<0)->K (.tup []) (σ.set id (.lst (aa.map f) s))):
  wVC P c (.fn F []) [.lsv id s xs.length 0 xs.length,.fn gf []] σ K fx:=by
 refine⟨F,[],rfl,.inl ⟨zD7 ae,fun w L β ab hm ha=> ?_⟩⟩
 match ab,ha with
 | [v1,v2],⟨h1,h2,_⟩=>
  obtain⟨ys,rfl,hy⟩:=h2
  cases ys with
  |cons _ _=>exact hy.elim
  |nil=>
   have:=xq2 (c:=c) La hs aE zE af hO hg hf hm hσ hlen h1
   rw[hF]at this
   refine this.mono ?_
   rintro e w' ⟨rfl,aa,hp,ag,ah,hle,ad⟩
   exact⟨.tuple #[],.tup [],L,_,β,rfl,hk aa hp ag,ah,hle,ad,[],rfl,tV⟩
end
end Go.Vx
namespace Go.Vx
open Go Go.Extern Go.Extern.Rtype Go.Lib Go.RowKit
section
variable {P:Program} {c:Ctx} {w:World} {L:Nat->Nat} {σ:St} {β:List Value}
variable {F:FuncId}{e:TypeId}{K:V->St->Prop}{n:Nat}{k:Nat}{ie:TypeInfo}{i:TypeInfo}{t:TypeId}{m:Nat}
theorem yo7 {α:Type} {s:Nat} {rows:List (List α)} (hu: ∀r∈rows,r.length=s) (hk:k<rows.length):(rows.flatten.drop (k*s)).take s=rows[k]:=by
 have hr:=hu _ (Ab hk)
 have hlen:=yA hu
 have aa:(k+1)*s<=rows.length*s:=Ah _ hk
 rw[B2,D8]at aa
 refine Bn fun j=> ?_
 by_cases q:j<s
 .rw[Dv q,Bt,yN k j hu q,A0 hk];rfl
 grind
theorem yv0 {rows:List (List V)} {s:Nat} {arr:Array Value} (hu: ∀r∈rows,r.length=s) (ha:All2 (RdC w L σ β) rows.flatten (arr.toList.take (rows.length*s))) (hk:k<rows.length):
  All2 (RdC w L σ β) (rows[k]) ((arr.toList.drop (k*s)).take s):=by
 have aa:(k+1)*s<=rows.length*s:=Ah _ hk
 rw[B2,D8]at aa
 have h:=(All2.drop (k*s) ha).take s
 grind[yo7,List.drop_take]
theorem yF4 {vs:List V} {xs:List Value} (h:All2 (RdC w L σ β) vs xs): ∀x∈xs,x.oneCell'=true:=by
 intro x hx
 obtain⟨k,hk⟩:=Av.1 hx
 have aa:k<vs.length:=by rw[h.length];grind
 obtain⟨z,hz,r⟩:=h.get k _ (A0 aa)
 rw[hk]at hz
 cases hz
 exact r.oneCell
theorem xH0 {gS:Bool} (hF: ∀args w,(callFunc F args).run P w=((ReflectliteSwapper.swap gS args).run P w).andThen fun v w'=> .ok (.value v) w') (ai:P.info? e=some ie) (ag: ∀w,(isAgg e).run P w= .ok true w)
  {id i j:Nat} {rows:List (List V)} (hσ:σ[id]? =some (.lst rows ie.size)) (hi:i<rows.length) (hj:j<rows.length)
  (hk:K (.tup []) (σ.set id (.lst ((rows.set i (rows[j]'hj)).set j (rows[i]'hi)) ie.size))):wVC P c (.fn F [.lsv id ie.size rows.length 0 rows.length,.raw (typeHandle P e)]) [.int .i64 i,.int .i64 j] σ K fx:=by
 refine⟨F,_,rfl,.inr fun w L β al hm ha=> ?_⟩
 match al,ha with
 | [v1,v2,v3,v4],⟨h1,h2,h3,h4,_⟩=>
  have e1:v1= .int .i64 i:=by cases h1;rfl
  have e2:v2= .int .i64 j:=by cases h2;rfl
  have e4:v4=typeHandle P e:=by cases h4;rfl
  subst e1;subst e2;subst e4
  obtain⟨a,cap,rfl,⟨aP,_⟩,_,hd|⟨rows2,an,_,hb⟩⟩:=h3
  .grind
  rw[hσ]at an
  cases an
  obtain⟨b,c0,hβ,aQ,_,hblk⟩:=hb rfl
  obtain⟨k,rfl,ao⟩:=hblk om
  rw[D2]at ao
  subst ao
  obtain⟨a',aG,ex,hcap,hs,hu,hok⟩:=hm.objs id _ _ hσ hβ
  cases ex
  obtain⟨b',arr,T,fz,eb,hh,hf,aR,hL,ah⟩:=hok om
  cases eb
  have hX:=yv0 hu ah hi
  have hY:=yv0 hu ah hj
  obtain⟨X,aw⟩:=eX ((arr.toList.drop (i*ie.size)).take ie.size)
  obtain⟨Y,ax⟩:=eX ((arr.toList.drop (j*ie.size)).take ie.size)
  rw[aw]at hX
  rw[ax]at hY
  have lX:X.length=ie.size:=by rw[<-hX.length];grind
  have lY:Y.length=ie.size:=by rw[<-hY.length];grind
  have oX:=yF4 hX
  have oY:=yF4 hY
  have ay:(i+1)*ie.size<=rows.length*ie.size:=Ah _ hi
  have az:(j+1)*ie.size<=rows.length*ie.size:=Ah _ hj
  have aS:rows.length*ie.size<=c0*ie.size:=Ah _ hcap
  rw[B2,D8]at ay az
  have cX: ∀q v,X[q]? =some v->w.cell? ⟨k,i*ie.size+q,none⟩=some v:=(by grind[World.cell?])
  have cY: ∀q v,Y[q]? =some v->w.cell? ⟨k,j*ie.size+q,none⟩=some v:=(by grind[World.cell?])
  have l1:=rl_loadVar_cells (P:=P) e ie ai ag k (i*ie.size) X lX w cX
  have l2:=rl_loadVar_cells (P:=P) e ie ai ag k (j*ie.size) Y lY w cY
  have ae: ∀n:Nat,n=rows.length->β.set id (.slice (some ⟨k,0,none⟩) n c0)=β:=(by grind[yI])
  have aH: ∀(q:Nat) (hq:q<rows.length) (r:List V),r.length=ie.size->(rows.set q r).flatten=putCells rows.flatten (q*ie.size) r:=fun q hq r hr=>by
   have h5:=zy8 (s:=ie.size) (vs:=r) (rows:=rows) q 0 hu hq om
   have e5:putCells (rows.getD q []) 0 r=r:=by
    simp_all[putCells]
   grind
  obtain⟨aI,T1,aT,aq,a1,aJ,ad,af,aa⟩:=hm.lstPut (rows2:=rows.set i (rows[j]'hj)) (off:=i*ie.size) hσ hβ om hY om (fun r hr=>by
   grind) (by grind) sM (by grind)
  rw[ae _ sM]at ad aa
  rw[hh]at aq
  cases aq
  have st1:=xZ P k (i*ie.size) T fz Y 0 arr w hh a1 om oY
  rw[D9]at st1
  obtain⟨w1,a6⟩:=eX (yM w k (.cells (xF arr (i*ie.size) Y) T fz))
  obtain⟨σ1,a7⟩:=eX (σ.set id (.lst (rows.set i (rows[j]'hj)) ie.size))
  rw[a6]at ad af st1
  rw[a7]at ad aa
  have aK:id<σ.length:=(by grind)
  have ar:σ1[id]? =some (.lst (rows.set i (rows[j]'hj)) ie.size):=by grind
  have a8: ∀r∈rows.set i (rows[j]'hj),r.length=ie.size:=(by grind)
  have aj:((rows.set i (rows[j]'hj)).set j (rows[i]'hi)).flatten=putCells (rows.set i (rows[j]'hj)).flatten (j*ie.size) (rows[i]'hi):=by
   have hr:=hu _ (Ab hi)
   have h5:=zy8 (s:=ie.size) (vs:=rows[i]'hi) (rows:=rows.set i (rows[j]'hj)) j 0 a8 (by grind) om
   have e5:putCells ((rows.set i (rows[j]'hj)).getD j []) 0 (rows[i]'hi)=rows[i]'hi:=by
    simp_all[putCells]
   grind
  have aA:All2 (RdC w1 L σ1 β) (rows[i]'hi) X:=hX.imp fun _ _ r=>r.mono af aa
  have aB: ∀n:Nat,n=rows.length->β.set id (.slice (some ⟨k,0,none⟩) n c0)=β:=ae
  obtain⟨au,T2,aC,aD,aE,aL,ak,av,ab⟩:=ad.lstPut (rows2:=(rows.set i (rows[j]'hj)).set j (rows[i]'hi)) (off:=j*ie.size) (n:=rows.length) ar hβ om aA (by grind) (fun r hr=>by
   grind) aj sM (by grind)
  rw[ae _ sM]at ak ab
  have st2:=xZ P k (j*ie.size) T2 aC X 0 au w1 aD aE om oX
  rw[D9]at st2
  have aF:σ1.set id (.lst ((rows.set i (rows[j]'hj)).set j (rows[i]'hi)) ie.size)=σ.set id (.lst ((rows.set i (rows[j]'hj)).set j (rows[i]'hi)) ie.size):=by grind[List.set_set]
  rw[aF]at ak ab
  refine⟨.tuple #[],.tup [],_,L,_,β, ?_,hk,ak,af.trans av,aa.trans ab,⟨[],rfl,tV⟩⟩
  have i0: ¬((i:Int)<0):=om
  have i1: ¬((i:Int)≥(rows.length:Int)):=om
  have j0: ¬((j:Int)<0):=om
  have j1: ¬((j:Int)≥(rows.length:Int)):=om
  rw[hF]
  show((ReflectliteSwapper.swap gS #[.int .i64 i,.int .i64 j,.slice (some ⟨k,0,none⟩) rows.length cap,typeHandle P e]).run P w).andThen _=_
  rw[rl_swap]
  cases gS<;>simp[i0,i1,j0,j1,ofHandle,handleType,typeHandle,ReflectliteSwapper.exchange,sizeOf,rl_info e ie ai,Addr.add_lit,l1,l2,storeVar,Value.cells,lX,lY,st1,st2,Result.andThen]
theorem xr1 {gS:Bool} (hF: ∀args w,(callFunc F args).run P w=((ReflectliteSwapper.swap gS args).run P w).andThen fun v w'=> .ok (.value v) w') (ab:P.info? e=some ie) (aa: ∀w,(isAgg e).run P w= .ok true w)
  {id i j s:Nat} {rows R:List (List V)} (hs:ie.size=s) (hn:rows.length=n) (hσ:σ[id]? =some (.lst rows s)) (hi:i<n) (hj:j<n) (hR:R=(rows.set i (rows.getD j [])).set j (rows.getD i []))
  (hk:K (.tup []) (σ.set id (.lst R s))):wVC P c (.fn F [.lsv id s n 0 n,.raw (typeHandle P e)]) [.int .i64 i,.int .i64 j] σ K fx:=by
 subst hs
 subst hn
 refine xH0 hF ab aa hσ hi hj ?_
 grind
theorem yQ6 (hF: ∀args w,(callFunc F args).run P w=((ReflectliteValue.unpack (args.getD 0 (.tuple #[]))).run P w).andThen fun v w'=> .ok (.value v) w') (hi:P.info? t=some i) (hd:i.desc= .slice e)
  {id s:Nat} (hk:K (.agg [.raw (typeHandle P t),.ptr σ.length 0,.int .u64 151]) (σ++ [.box [.lsv id s n 0 m]])):wVC P c (.fn F []) [.ifc t [.lsv id s n 0 m]] σ K fx:=by
 refine⟨F,[],rfl,.inr fun w L β aa hm ha=> ?_⟩
 match aa,ha with
 | [v1],⟨h1,_⟩=>
  obtain⟨y,rfl,hy,_⟩:=h1
  have ab:RdK w L σ β (.lsv id s n 0 m) y:=hy
  obtain⟨a,cap,rfl,_⟩:=hy
  obtain⟨h2,h3⟩:=hm.box [.lsv id s n 0 m] #[.slice a m cap] t (by trivial)
  refine⟨_,_,_,L,_,_, ?_,hk,h2,h3,Ext.push σ β hm.len _ _,⟨[typeHandle P t,.pointer (some ⟨w.heap.size,0,none⟩),.int .u64 151],rfl, ?_,⟨w.heap.size, ?_,rfl⟩,RdP.int _ _,tV⟩⟩
  .rw[hF]
   show((ReflectliteValue.unpack (.iface t (.slice a m cap))).run P w).andThen _=_
   rw[run_valueOf_slice t e i hi hd]
   rfl
  .exact RdP.raw _ rfl
  .rw[<-hm.len,B8 om];simp
theorem yQ5 {G:FuncId} (hF: ∀args w,(callFunc F args).run P w=((ReflectliteSwapper.swapper "internal/reflectlite" (ReflectliteValue.valueError "Swapper") args).run P w).andThen fun v w'=> .ok (.value v) w') (hi:P.info? t=some i) (hd:i.desc= .slice e) (hie:P.info? e=some ie)
  {ke:Nat} (hke: ∀w,(kind e).run P w= .ok ke w) {id s:Nat} (hG:P.funcs.findIdx? (·.name== "internal/reflectlite" ++ ".Swapper$" ++toString (swapperK m ie ke))=some G)
  (hk:K (.fn G (if swapperK m ie ke<=2 then []else [.lsv id s n 0 m,.raw (typeHandle P e)])) σ):wVC P c (.fn F []) [.ifc t [.lsv id s n 0 m]] σ K fx:=by
 refine⟨F,[],rfl,.inr fun w L β vals hm ha=> ?_⟩
 match vals,ha with
 | [v1],⟨h1,_⟩=>
  obtain⟨y,rfl,hy,_⟩:=h1
  have hy2:RdK w L σ β (.lsv id s n 0 m) y:=hy
  obtain⟨a,cap,rfl,_⟩:=hy
  refine⟨.func (.func G) #[] (if swapperK m ie ke<=2 then #[]else #[.slice a m cap,typeHandle P e]),_,w,L,σ,β, ?_,hk,hm,Le.refl _ _,Ext.refl _ _, ?_⟩
  .rw[hF]
   show((ReflectliteSwapper.swapper _ _ #[.iface t (.slice a m cap)]).run P w).andThen _=_
   rw[run_swapper_slice t e i ie hi hd hie ke hke a m cap G hG]
   rfl
  .split
   .exact⟨[],rfl,tV⟩
   .exact⟨[.slice a m cap,typeHandle P e],rfl,hy2,RdP.raw _ rfl,tV⟩
theorem yD9 (hF: ∀args w,(callFunc F args).run P w=((ReflectliteValue.method (ReflectliteValue.valueError "reflectlite.Value.Len" 0) ReflectliteValue.len args).run P w).andThen fun v w'=> .ok (.value v) w') (hi:P.info? t=some i) (hd:i.desc= .slice e) (hpk:P.packed t=false)
  {id s:Nat} (hσ:σ[k]? =some (.box [.lsv id s n 0 m])) (hk:K (.int .i64 m) σ):wVC P c (.fn F []) [.agg [.raw (typeHandle P t),.ptr k 0,.int .u64 151]] σ K fx:=by
 refine⟨F,[],rfl,.inr fun w L β vals hm ha=> ?_⟩
 match vals,ha with
 | [v1],⟨h1,_⟩=>
  obtain⟨xs,rfl,h2⟩:=h1
  match xs,h2 with
  | [x1,x2,x3],⟨g1,g2,g3,_⟩=>
   have e1:x1=typeHandle P t:=by cases g1;rfl
   have e3:x3= .int .u64 151:=by cases g3;rfl
   subst e1;subst e3
   obtain⟨b,hβ,rfl⟩:=g2
   obtain⟨b',arr,T,fz,eb,hh,hf,hL,hc⟩:=hm.objs k _ _ hσ hβ
   cases eb
   obtain⟨z,hz,hr⟩:=hc.get 0 _ rfl
   obtain⟨a,cap,rfl,_⟩:=hr
   refine⟨_,_,w,L,σ,β, ?_,hk,hm,Le.refl _ _,Ext.refl _ _,RdP.int _ _⟩
   rw[hF]
   show((ReflectliteValue.method (ReflectliteValue.valueError "reflectlite.Value.Len" 0) ReflectliteValue.len #[.agg #[typeHandle P t,.pointer (some ⟨b,0,none⟩),.int .u64 151]]).run P w).andThen _=_
   rw[run_valueLen_slice t e i hi hd hpk ⟨b,0,none⟩ a m cap w (by grind[World.cell?])]
   rfl
end
end Go.Vx
