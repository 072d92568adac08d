/-
  internal/reflectlite's Swapper over trees: the function literal that it hands back changes two rows of a list of one's own (the kit's law of it, lifted).
  No condition: a library text; nothing of the program is named.
-/
import Derived.Test.YtplackkccmeioaaGreatKBAF
import Derived.Shelf.SlSortCmp.NoneTotal
import Derived.Lib.ReflectliteSwap
import Derived.Lib.ReflectliteSlice
set_option maxHeartbeats 8000000
namespace Go.Vx
open Go Go.Shelf Go.Sort Go.Proofs
structure SE (s:Nat) where
 n:Int
 t:ahP
 rest:ahR
 len:rest.length+2=s
 one: ∀v∈rest,v.oneCell'=true
def SE.enc {s:Nat} (x:SE s):ahR:= .int .i64 x.n:: .string ⟨x.t.toArray⟩::x.rest
def SE.key {s:Nat} (x:SE s):Int×ahP:=(x.n,x.t)
@[instance_reducible] def Zb {s:Nat} (h:2<=s):Inhabited (SE s):=⟨⟨0,[],List.replicate (s - 2) (.int .i64 0),by simp;omega,λv hv=>by
 rw[List.eq_of_mem_replicate hv];rfl⟩⟩
theorem SE.lZ {s:Nat} (x:SE s):x.enc.length=s:=by simp[SE.enc,<-x.len]
theorem SE.vM {s:Nat} (x:SE s): ∀v∈x.enc,v.oneCell'=true:=λv hv=>by
 simp only[SE.enc,Af]at hv
 rcases hv with rfl|rfl|hv
 .rfl
 .rfl
 .exact x.one v hv
theorem bP.CM {U J:Type} {R:U->J->Prop} {ds ab:List J} (hp:ds.Perm ab): ∀{xs:List U},bP R xs ds-> ∃aa,xs.Perm aa/\bP R aa ab:=by
 induction hp with
 |nil=>intro xs h;cases xs with
  |nil=>exact⟨[],.refl _,tV⟩
  |cons _ _=>exact h.elim
 |cons d _ ih=>
  intro xs h
  cases xs with
  |nil=>exact h.elim
  |cons x xs=>
   obtain⟨aa,h1,h2⟩:=ih h.2
   exact⟨x::aa,h1.cons x,h.1,h2⟩
 |swap a b l=>
  intro xs h
  match xs,h with
  |x::y::xs,h=>exact⟨y::x::xs,.swap y x xs,h.2.1,h.1,h.2.2⟩
  | [_],h=>exact h.2.elim
  | [],h=>exact h.elim
 |trans _ _ ad ae=>
  intro xs h
  obtain⟨ah,h1,h2⟩:=ad h
  obtain⟨af,h3,h4⟩:=ae h2
  exact⟨af,h1.trans h3,h4⟩
theorem bP.split {U J:Type} {R:U->J->Prop}: ∀{l l':List U} {m:List J},bP R (l++l') m-> ∃m1 m2,m=m1++m2/\bP R l m1/\bP R l' m2
 | [],l',m,h=>⟨[],m,rfl,tV,h⟩
 |a::l,l',[],h=>h.elim
 |a::l,l',b::m,h=>by
  obtain⟨m1,m2,rfl,h1,h2⟩:=bP.split h.2
  exact⟨b::m1,m2,rfl,⟨h.1,h1⟩,h2⟩
section
variable {P:Program} {c:Ctx} {w:World} {L:Nat->Nat} {I:St} {J:ahR}
theorem Q0 {s:Nat} {X:Type} {f:X->List V} {kx:X->Int×ahP} (hf: ∀x,∃rest,f x= .int .i64 (kx x).1:: .str (kx x).2::rest/\rest.length+2=s):
  ∀(xs:List X) (aa:ahR),bP (cW w L I J) ((xs.map f).flatten) aa-> ∃ds:List (SE s),ds.flatMap SE.enc=aa/\bP (λx d=>bP (cW w L I J) (f x) d.enc/\d.key=kx x) xs ds
 | [],aa,h=>by
  cases aa with
  |nil=>exact⟨[],rfl,tV⟩
  |cons _ _=>exact h.elim
 |x::xs,aa,h=>by
  rw[Ai,D1]at h
  obtain⟨m1,m2,rfl,h1,h2⟩:=bP.split h
  obtain⟨ds,h3,h4⟩:=Q0 hf xs m2 h2
  obtain⟨rest,hr,hl⟩:=hf x
  have ab:=h1
  rw[hr]at h1
  match m1,h1 with
  |v1::v2::vr,⟨a1,a2,a3⟩=>
   have e1:v1= .int .i64 (kx x).1:=yO (dt.dH a1)
   have e2:v2= .string ⟨(kx x).2.toArray⟩:=kU (dt.dH a2)
   subst e1 e2
   have hlen:=a3.length
   refine⟨⟨(kx x).1,(kx x).2,vr,om,λv hv=> ?_⟩::ds, ?_,⟨?_,rfl⟩,h4⟩
   .obtain⟨q,_,hq⟩:=a3.mM hv
    exact hq.dD
   .rw[By,h3];rfl
   .exact ab
  | [],h1=>exact h1.elim
  | [_],⟨_,h1⟩=>exact h1.elim
theorem Zc {W w':World} {L0 L':Nat->Nat} {I':St} {J':ahR} (h:Mem (entry W L0 [] []) w' L' I' J'): ∃q aa,w'=Sort.grow (W.drewN q) aa:=by
 refine⟨w'.drawn - W.drawn,w'.heap.extract W.heap.size w'.heap.size, ?_⟩
 have h1:w'.heap=W.heap++w'.heap.extract W.heap.size w'.heap.size:=by
  have hs:W.heap.size<=w'.heap.size:=h.size
  apply Array.ext
  .simp;omega
  .intro i hi ab
   by_cases q:i<W.heap.size
   .have:=(h.same i q (by simp[entry,tX])).1
    have e1:w'.heap[i]? =some w'.heap[i]:=B2 hi
    have e2:W.heap[i]? =some W.heap[i]:=B2 q
    rw[Array.getElem_append_left q]
    have this:w'.heap[i]? =W.heap[i]? :=this
    rw[e1,e2]at this
    exact ahu this
   .rw[Array.getElem_append_right om]
    simp only[Array.getElem_extract]
    congr 1;omega
 have h2:w'.os=W.os:=h.os
 have h3:w'.tape=W.tape:=h.tape
 have h4:w'.output=W.output:=h.output
 have h5:W.drawn<=w'.drawn:=h.drawn
 obtain⟨hp,tp,dr,os,out⟩:=w'
 simp only at h1 h2 h3 h4 h5
 unfold Sort.grow World.drewN
 simp only
 rw[<-h1,<-h2,<-h3,<-h4,show W.drawn+(dr - W.drawn)=dr by omega]
theorem Mem.ahead (h:Mem c w L I J) (n:Nat):Mem c (Sort.ahead w n) L I J/\Le w L (Sort.ahead w n) L:=by
 have hle:Le w L (Sort.ahead w n) L:=⟨λ_=>A7 _,λ_ _ _=>rfl⟩
 refine⟨⟨h.len,λi o x hi hx=>(h.dd i o x hi hx).step hle (Ext.refl _ _) λb hb=>⟨rfl,rfl⟩,h.apart,h.fN,h.same,h.le.trans hle,h.size,h.os,h.tape,h.output,B1 h.drawn (Nat.le_add_right _ _),h.lim,h.ext,h.jn⟩,hle⟩
theorem Mem.grow (h:Mem c w L I J) (os:Array Go.Obj):Mem c (Sort.grow w os) L I J/\Le w L (Sort.grow w os) L:=by
 have hb: ∀b,b<w.heap.size->(Sort.grow w os).heap[b]? =w.heap[b]? :=λb hb=>by
  show(w.heap++os)[b]? =_
  rw[Dl hb]
 have hle:Le w L (Sort.grow w os) L:=by
  refine⟨λ_=>A7 _,λb o ho=> ?_⟩
  have:b<w.heap.size:=by
   rcases Bx b w.heap.size with q|q
   .exact q
   .rw[h.lim b q]at ho;omega
  exact AF (hb b this) o
 refine⟨⟨h.len,λi o x hi hx=>(h.dd i o x hi hx).step hle (Ext.refl _ _) λb ab=>⟨hb b ((h.dd i o x hi hx).eK ab),rfl⟩,h.apart,h.fN,λb aa hx=> ?_,h.le.trans hle, ?_,h.os,h.tape,h.output,h.drawn,λb aa=> ?_,h.ext,h.jn⟩,hle⟩
 .have:=h.same b aa hx
  exact⟨(hb b (Dg aa h.size)).trans this.1,this.2⟩
 .have:(Sort.grow w os).heap.size=w.heap.size+os.size:=by show(w.heap++os).size=_;simp
  rw[this];exact B1 h.size (Nat.le_add_right _ _)
 .have:(Sort.grow w os).heap.size=w.heap.size+os.size:=by show(w.heap++os).size=_;simp
  rw[this]at aa
  exact h.lim b om
theorem Zd {b:Nat} {arr:ahT} {T:TypeId} {fz:Nat×Nat} (h:w.heap[b]? =some (.cells arr T fz)) (f:ahT->ahT):mapBlock w b f=yB w b (.cells (f arr) T fz):=by
 have hb:b<w.heap.size:=(Bo.1 h).1
 have hx:w.heap[b]'hb= .cells arr T fz:=by
  rw[B2 hb]at h
  exact ahu h
 unfold mapBlock yB
 congr 1
 apply Array.ext
 .simp
 .intro i h1 h2
  rw[Array.getElem_modify,Array.getElem_setIfInBounds]
  .by_cases q:b=i
   .subst q
    rw[ahg rfl,ahg rfl,hx]
    rfl
   .rw[ahf q,ahf q]
theorem Ze (F arr:ahT) (h:F.size<=arr.size):Go.Sort.putCells id 0 F arr=yC arr 0 F.toList:=by
 unfold Go.Sort.putCells
 apply Array.ext
 .simp[yH]
 .intro i h1 h2
  have hi:i<arr.size:=sU h1
  have hs:=wM F.toList arr 0 i (sU h)
  rw[B2 h2]at hs
  by_cases q:i<F.size
  .rw[ahg (sU q)]at hs
   simp only[Nat.sub_zero,Ao,B2 q,ahk]at hs
   rw[hs,Array.getElem_mapIdx]
   simp[q]
  .rw[ahf (sU q),B2 hi,ahk]at hs
   rw[hs,Array.getElem_mapIdx]
   simp[q]
theorem Q1 {s:Nat} (hs:0<s) [Inhabited (SE s)] (d:Array (SE s)):(Go.Sort.flatK SE.enc s d).toList=d.toList.flatMap SE.enc:=by
 have hu: ∀r∈d.toList.map SE.enc,r.length=s:=λr hr=>by
  obtain⟨x,_,rfl⟩:=Ac.1 hr
  exact x.lZ
 have aa:d.toList.flatMap SE.enc=(d.toList.map SE.enc).flatten:=List.flatMap_def ..
 have ab:(d.toList.map SE.enc).flatten.length=d.size*s:=by rw[yA hu];simp
 rw[aa]
 apply Bg
 intro t
 rw[Ao]
 by_cases ht:t<d.size*s
 .have h1:t<(Go.Sort.flatK SE.enc s d).size:=by rw[size_flatK];exact ht
  have h2:=get_flatK SE.enc s d t ht
  rw[ahF _ t h1]at h2
  rw[B2 h1,h2]
  have hq:t/s<d.size:=Nat.div_lt_of_lt_mul (by rw[Dq];exact ht)
  have hr:t%s<s:=Cs _ hs
  have h3:=yQ (rows:=d.toList.map SE.enc) (t/s) (t%s) hu hr
  rw[show t/s*s+t%s=t by rw[Dq];exact D3 t s]at h3
  rw[h3,B3,Ao,B2 hq,ahF d _ hq]
  simp only[Bf,Ay]
  have hl:t%s<(SE.enc d[t/s]).length:=by rw[SE.lZ];exact hr
  rw[A0 hl,ahF (SE.enc d[t/s]) (t%s) hl]
 .rw[Array.getElem?_eq_none (by rw[size_flatK];omega),Dk om]
theorem Q2 {s:Nat} {X:Type} {f:X->List V} {p:X->SE s->Prop}: ∀{xs:List X} {ds:List (SE s)},bP (λx d=>bP (cW w L I J) (f x) d.enc/\p x d) xs ds->bP (cW w L I J) (xs.map f).flatten (ds.flatMap SE.enc)
 | [],[],_=>trivial
 |x::xs,d::ds,h=>by
  rw[Ai,D1,By]
  exact bP.append h.1.1 (Q2 h.2)
 | [],_::_,h=>h.elim
 |_::_,[],h=>h.elim
theorem Zf {ρ:Ren} (La:SlLaysF0.n6 P ρ) {s:Nat} (hs:2<=s) (aE: ∀w,(isAgg (ρ.t 24)).run P w= .ok true w) (zE: ∀w,(Go.sizeOf (ρ.t 24)).run P w= .ok s w) {gf:Nat} (Zg:xF P gf)
  {C:Int×ahP->Int×ahP->Int} (hO:SWO λa b=>decide (C a b<0))
  (hg: ∀x y:Int×ahP,Pure P gf [.agg (.int .i64 x.1:: .str x.2::List.replicate (s - 2) .u),.agg (.int .i64 y.1:: .str y.2::List.replicate (s - 2) .u)] (.int .i64 (C x y)))
  {X:Type} {f:X->List V} {kx:X->Int×ahP} (hf: ∀x,∃rest,f x= .int .i64 (kx x).1:: .str (kx x).2::rest/\rest.length+2=s) {id:Nat} {xs:List X}
  (hm:Mem c w L I J) (cG:I[id]? =some (.cj (xs.map f) s)) (hlen:xs.length<4611686018427387904) {v:Value} (hv:dt w L I J (.cJ id s xs.length 0 xs.length) v):
  Calls P (ρ.f 6) #[v,.func (.func gf) #[] #[]] w λe w'=>e= .returned (.tuple #[])/\ ∃p0,xs.Perm p0/\p0.Pairwise (λa b=> ¬C (kx b) (kx a)<0)/\
   Mem c w' L (I.set id (.cj (p0.map f) s)) J/\Le w L w' L/\Ext I J (I.set id (.cj (p0.map f) s)) J:=by
 haveI:=Zb hs
 obtain⟨a,cap,rfl,⟨hc1,_⟩,_,hv⟩:=hv
 rcases hv with hd|⟨rows,GX,hn,hb⟩
 .rw[cG]at hd;cases hd
 rw[cG]at GX
 obtain rfl:xs.map f=rows:=by cases GX;rfl
 obtain⟨bb,c0,db,dg,_,hblk⟩:=hb sm
 have GY:I.set id (.cj (xs.map f) s)=I:=yM I id _ cG
 by_cases Zh:xs.length=0
 .obtain rfl:xs= []:=Aq Zh
  refine(AnyF.slices_SortFunc_none (P:=P) (ρ:=ρ) La a cap (.func (.func gf) #[] #[]) w).mono ?_
  rintro e w' ⟨rfl,rfl⟩
  exact⟨rfl,[],.refl _,List.Pairwise.nil,by rw[GY];exact hm,Le.refl _ _,by rw[GY];exact Ext.refl _ _⟩
 have GZ:0<c0:=om
 obtain⟨k,rfl,rfl⟩:=hblk GZ
 obtain⟨a',Zi,e,zd,hs0,hu,cN⟩:=hm.dd id _ _ cG db
 simp only[Ag]at e
 cases e
 obtain⟨b',arr,T,fz,e,hh,Zj,Gj,hL,sC⟩:=cN GZ
 cases e
 have Zk:k<w.heap.size:=(Bo.1 hh).1
 simp only[Ag]at zd sC
 obtain⟨ds,Zl,G0⟩:=Q0 hf xs _ sC
 have Zm:=G0.length
 have Zn:xs.length*s<=arr.size:=B1 (Aj s zd) Gj
 have MJ:=Q1 om ds.toArray
 have l6:ds.toArray.size=xs.length:=by simp[Zm]
 have hH:HoldsK SE.enc s w k 0 ds.toArray:=by
  intro j hj
  rw[size_flatK,l6]at hj
  have h1:(Go.Sort.flatK SE.enc s ds.toArray).toList[j]? =arr[j]? :=by
   rw[MJ,Zl,An,ahg hj,Ao]
  have MK:j<arr.size:=om
  have Q3:j<(Go.Sort.flatK SE.enc s ds.toArray).size:=by rw[size_flatK,l6];exact hj
  rw[Ao,B2 Q3,B2 MK,ahk]at h1
  refine⟨?_, ?_⟩
  .rw[ahF _ j Q3,h1]
   simp[World.cell?,hh,MK]
  .have:=Zj.1 j MK
   simp[World.frozen?,hh]
   omega
 obtain⟨fn,Lx,sf,si⟩:=Iw Zg
 have eg: ∀args w,(callFunc gf args).run P w= .ok (.enter gf args) w:=λargs w=>by
  have Ly: ¬fn.body=none:=by intro q;simp[q]at si
  have Gi: ¬fn.name= "runtime.NumGoroutine" :=sU sf
  simp[callFunc,Lx,Gi,Ly]
 let cf:SE s->SE s->Int:=λx y=>C x.key y.key
 have Zo:SWO (ltOf cf):=⟨λx=>hO.irrefl _,λx y z=>hO.trans _ _ _,λx y z=>hO.ntrans _ _ _⟩
 have Q4: ∀(W:World) (x:SE s),dt W L [] [] (.agg (.int .i64 x.key.1:: .str x.key.2::List.replicate (s - 2) .u)) (.agg x.enc.toArray):=λW x=>by
  refine⟨x.enc,rfl,cW.dm (.int _ _),cW.dm (.str _), ?_⟩
  have hl:x.rest.length=s - 2:=by have:=x.len;omega
  rw[<-hl]
  have ho:=x.one
  generalize x.rest=r at ho
  induction r with
  |nil=>trivial
  |cons v r ih=>exact⟨ho v sm,ih λu hu=>ho u (by simp[hu])⟩
 have ML:CmpLays P gf #[] SE.enc s cf k 0 ds.toArray.size w:=by
  intro m os dk _ x y
  generalize hW:sortWorldK SE.enc s w k 0 m dk os=W
  have G1: ∀b,b≠k->b<w.heap.size->W.heap[b]? =w.heap[b]? :=λb hb Zp=>by
   rw[<-hW]
   show((putRowK SE.enc s (Sort.ahead w m) k 0 dk).heap++os)[b]? =_
   have CN:(putRowK SE.enc s (Sort.ahead w m) k 0 dk).heap.size=w.heap.size:=by unfold putRowK;rw[Go.Sort.size_putRow];rfl
   rw[Dl (by rw[CN];exact Zp)]
   show(w.heap.modify k _)[b]? =_
   rw[Array.getElem?_modify,ahf (λq=>hb q.symm)]
  have MM:w.heap.size<=W.heap.size:=by
   rw[<-hW]
   show _<=((putRowK SE.enc s (Sort.ahead w m) k 0 dk).heap++os).size
   have CN:(putRowK SE.enc s (Sort.ahead w m) k 0 dk).heap.size=w.heap.size:=by unfold putRowK;rw[Go.Sort.size_putRow];rfl
   rw[Array.size_append,CN];omega
  have MN:Le w L W L:=by
   refine⟨λ_=>A7 _,λb o ho=> ?_⟩
   have Gi:b≠k:=λq=>by subst q;rw[hL]at ho;omega
   have:b<w.heap.size:=by
    rcases Bx b w.heap.size with q|q
    .exact q
    .rw[hm.lim b q]at ho;omega
   exact AF (G1 b Gi this) o
  have Zq:Mem (entry W L [] []) W L [] []:=
   ⟨rfl,λi o x ho _=>by simp at ho,λi j o o' x x' b _ ho _ _ _ _=>by simp at ho,λi o x b ho _ _=>by simp at ho,λb _ _=>⟨rfl,rfl⟩,Le.refl _ _,A7 _,rfl,rfl,rfl,A7 _,λb hb=>hm.lim b (B1 MM hb),Ext.refl _ _,(hm.jn.mono hm.le).mono MN⟩
  have mS:=hg x.key y.key W L [] [.agg x.enc.toArray,.agg y.enc.toArray] Zq ⟨Q4 W x,Q4 W y,tV⟩
  have e1:(#[.agg x.enc.toArray,.agg y.enc.toArray]++ #[]:ahT)= [Value.agg x.enc.toArray,Value.agg y.enc.toArray].toArray:=sm
  rw[e1]
  refine mS.mono ?_
  rintro e w' ⟨v,r,L',I',J',rfl,⟨rfl,rfl⟩,_,Zr,AT⟩
  exact⟨by rw[yO AT],Zc Zr⟩
 rw[Cx,<-l6]
 refine(AnyQ.slices_SortFunc (P:=P) (ρ:=ρ) La s aE zE SE.enc (λx=>x.lZ) (λx=>x.vM) cf Zo gf #[] k 0 cap ds.toArray w eg ML hH Zk (by rw[l6];exact hlen)).mono ?_
 rintro e w' ⟨rfl,d',nn,os,⟨sK,_,JA⟩,vN,rfl⟩
 have Zs:d'.toList.length=xs.length:=by rw[Cq,sK,l6]
 have JA:d'.toList.Perm ds:=by
  have e1:d'.extract 0 ds.toArray.size=d':=by rw[<-sK];simp
  have e2:ds.toArray.extract 0 ds.toArray.size=ds.toArray:=sm
  rw[e1,e2]at JA
  exact JA
 obtain⟨p0,Q5,ze⟩:=bP.CM JA.symm G0
 have MO:=Q5.length_eq
 refine⟨rfl,p0,Q5, ?_, ?_⟩
 .rw[Cu]
  intro i j hi hj Zt
  have Q6:i<d'.size:=by rw[sK,l6];omega
  have Q7:j<d'.size:=by rw[sK,l6];omega
  have h1:=vN i j (A4 _) Zt (by rw[l6];omega)
  rw[ahF d' i Q6,ahF d' j Q7]at h1
  have key: ∀(q:Nat) (hq:q<p0.length) (Q8:q<d'.size),d'[q].key=kx p0[q]:=λq hq Q8=>by
   obtain⟨b,hb,r⟩:=ze.get q _ (A0 hq)
   rw[Ao,B2 Q8,ahk]at hb
   rw[hb];exact r.2
  have h2:decide (C d'[j].key d'[i].key<0)=false:=h1
  rw[key i hi Q6,key j hj Q7]at h2
  exact ahv h2
 .obtain⟨Zu,G2⟩:=hm.ahead nn
  have Q9:eI s (p0.map f):=λr hr=>by
   obtain⟨x,_,rfl⟩:=Ac.1 hr
   obtain⟨rest,h1,h2⟩:=hf x
   rw[h1];simp;omega
  have MP:=yA hu
  have MQ:=yA Q9
  have Zv:bP (cW (Sort.ahead w nn) L I J) (p0.map f).flatten (d'.toList.flatMap SE.enc):=(Q2 ze).imp λ_ _=>cW.mono G2 (Ext.refl _ _)
  have MR:(p0.map f).flatten=putCells (xs.map f).flatten 0 (p0.map f).flatten:=by
   unfold putCells
   rw[ahJ,Bu,Bn (by rw[MP,Ad,MQ];simp[MO]),Ax]
  obtain⟨MS,T2,Zw,h1,_,h3,h4,h5,h6⟩:=Zu.fX (off:=0) cG db GZ Zv (A4 _) Q9 MR (by simp[MO]) (by simp only[Ag];omega)
  have Ra:w.heap[k]? =some (.cells MS T2 Zw):=h1
  rw[hh]at Ra
  cases Ra
  have MT:J.set id (.slice (some ⟨k,0,none⟩) (p0.map f).length c0)=J:=yM J id _ (by rw[db];simp[MO])
  rw[MT]at h4 h6
  have Zx:=Q1 om d'
  have G3:putRowK SE.enc s (Sort.ahead w nn) k 0 d'=yB (Sort.ahead w nn) k (.cells (yC arr 0 (d'.toList.flatMap SE.enc)) T fz):=by
   unfold putRowK Go.Sort.putRow
   rw[Zd (w:=Sort.ahead w nn) hh,Ze _ _ (by rw[size_flatK,sK,l6];exact Zn),Zx]
  obtain⟨h7,h8⟩:=h4.grow os
  unfold sortWorldK
  rw[G3]
  exact⟨h7,G2.trans (h5.trans h8),h6⟩
theorem Rb {ρ:Ren} (La:SlLaysF0.n6 P ρ) {F:Nat} (hF:ρ.f 6=F) (ae:xF P F) {s:Nat} (hs:2<=s) (aE: ∀w,(isAgg (ρ.t 24)).run P w= .ok true w) (zE: ∀w,(Go.sizeOf (ρ.t 24)).run P w= .ok s w) {gf:Nat} (af:xF P gf)
  {C:Int×ahP->Int×ahP->Int} (hO:SWO λa b=>decide (C a b<0))
  (hg: ∀x y:Int×ahP,Pure P gf [.agg (.int .i64 x.1:: .str x.2::List.replicate (s - 2) .u),.agg (.int .i64 y.1:: .str y.2::List.replicate (s - 2) .u)] (.int .i64 (C x y)))
  {X:Type} {f:X->List V} {kx:X->Int×ahP} (hf: ∀x,∃rest,f x= .int .i64 (kx x).1:: .str (kx x).2::rest/\rest.length+2=s) {id:Nat} (xs:List X)
  (cG:I[id]? =some (.cj (xs.map f) s)) (hlen:xs.length<4611686018427387904) {K:V->St->Prop}
  (hk: ∀aa,xs.Perm aa->aa.Pairwise (λa b=> ¬C (kx b) (kx a)<0)->K (.cy []) (I.set id (.cj (aa.map f) s))):
  iZ P c (.fn F []) [.cJ id s xs.length 0 xs.length,.fn gf []] I K fx:=by
 refine⟨F,[],rfl,.inl ⟨Iw ae,λw L J ab hm ha=> ?_⟩⟩
 match ab,ha with
 | [v1,v2],⟨h1,h2,_⟩=>
  obtain⟨ys,rfl,hy⟩:=h2
  cases ys with
  |cons _ _=>exact hy.elim
  |nil=>
   have:=Zf (c:=c) La hs aE zE af hO hg hf hm cG hlen h1
   rw[hF]at this
   refine this.mono ?_
   rintro e w' ⟨rfl,aa,hp,ah,ai,hle,ad⟩
   exact⟨.tuple #[],.cy [],L,_,J,rfl,hk aa hp ah,ai,hle,ad,[],rfl,tV⟩
end
end Go.Vx
namespace Go.Vx
open Go Go.Extern Go.Extern.Rtype Go.Lib Go.RowKit
section
variable {P:Program} {c:Ctx} {w:World} {L:Nat->Nat} {I:St} {J:ahR}
variable {F:FuncId}{e:TypeId}{K:V->St->Prop}{n:Nat}{k:Nat}{ie:TypeInfo}{i:TypeInfo}{t:TypeId}{m:Nat}
theorem Zy {U:Type} {s:Nat} {rows:List (List U)} (hu: ∀r∈rows,r.length=s) (hk:k<rows.length):(rows.flatten.drop (k*s)).take s=rows[k]:=by
 have hr:=hu _ (A8 hk)
 have hlen:=yA hu
 have aa:(k+1)*s<=rows.length*s:=Aj _ hk
 rw[B4,D9]at aa
 refine Bg λj=> ?_
 by_cases q:j<s
 .rw[List.getElem?_take_of_lt q,C8,yQ k j hu q,A0 hk];rfl
 grind
theorem Rc {rows:List (List V)} {s:Nat} {arr:ahT} (hu: ∀r∈rows,r.length=s) (ha:bP (cW w L I J) rows.flatten (arr.toList.take (rows.length*s))) (hk:k<rows.length):
  bP (cW w L I J) (rows[k]) ((arr.toList.drop (k*s)).take s):=by
 have aa:(k+1)*s<=rows.length*s:=Aj _ hk
 rw[B4,D9]at aa
 have h:=(bP.drop (k*s) ha).take s
 grind[Zy,List.drop_take]
theorem Re {vs:List V} {xs:ahR} (h:bP (cW w L I J) vs xs): ∀x∈xs,x.oneCell'=true:=by
 intro x hx
 obtain⟨k,hk⟩:=As.1 hx
 have aa:k<vs.length:=by rw[h.length];grind
 obtain⟨z,hz,r⟩:=h.get k _ (A0 aa)
 rw[hk]at hz
 cases hz
 exact r.dD
theorem Zz {gS:Bool} (hF: ∀args w,(callFunc F args).run P w=((ReflectliteSwapper.swap gS args).run P w).andThen λv w'=> .ok (.value v) w') (aj:P.info? e=some ie) (ah: ∀w,(isAgg e).run P w= .ok true w)
  {id i j:Nat} {rows:List (List V)} (cG:I[id]? =some (.cj rows ie.size)) (hi:i<rows.length) (hj:j<rows.length)
  (hk:K (.cy []) (I.set id (.cj ((rows.set i (rows[j]'hj)).set j (rows[i]'hi)) ie.size))):iZ P c (.fn F [.cJ id ie.size rows.length 0 rows.length,.raw (typeHandle P e)]) [.int .i64 i,.int .i64 j] I K fx:=by
 refine⟨F,_,rfl,.inr λw L J an hm ha=> ?_⟩
 match an,ha with
 | [v1,v2,v3,v4],⟨h1,h2,h3,h4,_⟩=>
  have e1:v1= .int .i64 i:=by cases h1;rfl
  have e2:v2= .int .i64 j:=by cases h2;rfl
  have e4:v4=typeHandle P e:=by cases h4;rfl
  subst e1;subst e2;subst e4
  obtain⟨a,cap,rfl,⟨aQ,_⟩,_,hd|⟨cA,ao,_,hb⟩⟩:=h3
  .grind
  rw[cG]at ao
  cases ao
  obtain⟨b,c0,db,aR,_,hblk⟩:=hb rfl
  obtain⟨k,rfl,aq⟩:=hblk om
  rw[Cx]at aq
  subst aq
  obtain⟨a',aH,ex,dg,hs,hu,cN⟩:=hm.dd id _ _ cG db
  cases ex
  obtain⟨b',arr,T,fz,eb,hh,hf,aS,hL,ai⟩:=cN om
  cases eb
  have hX:=Rc hu ai hi
  have hY:=Rc hu ai hj
  obtain⟨X,ax⟩:=eX ((arr.toList.drop (i*ie.size)).take ie.size)
  obtain⟨Y,ay⟩:=eX ((arr.toList.drop (j*ie.size)).take ie.size)
  rw[ax]at hX
  rw[ay]at hY
  have lX:X.length=ie.size:=by rw[<-hX.length];grind
  have lY:Y.length=ie.size:=by rw[<-hY.length];grind
  have oX:=Re hX
  have oY:=Re hY
  have az:(i+1)*ie.size<=rows.length*ie.size:=Aj _ hi
  have a1:(j+1)*ie.size<=rows.length*ie.size:=Aj _ hj
  have aT:rows.length*ie.size<=c0*ie.size:=Aj _ dg
  rw[B4,D9]at az a1
  have cX: ∀q v,X[q]? =some v->w.cell? ⟨k,i*ie.size+q,none⟩=some v:=(by grind[World.cell?])
  have cY: ∀q v,Y[q]? =some v->w.cell? ⟨k,j*ie.size+q,none⟩=some v:=(by grind[World.cell?])
  have l1:=rl_loadVar_cells (P:=P) e ie aj ah k (i*ie.size) X lX w cX
  have l2:=rl_loadVar_cells (P:=P) e ie aj ah k (j*ie.size) Y lY w cY
  have ae: ∀n:Nat,n=rows.length->J.set id (.slice (some ⟨k,0,none⟩) n c0)=J:=(by grind[yM])
  have aI: ∀(q:Nat) (hq:q<rows.length) (r:List V),r.length=ie.size->(rows.set q r).flatten=putCells rows.flatten (q*ie.size) r:=λq hq r hr=>by
   have h5:=Ik (s:=ie.size) (vs:=r) (rows:=rows) q 0 hu hq om
   have e5:putCells (rows.getD q []) 0 r=r:=by
    simp_all[putCells]
   grind
  obtain⟨aJ,T1,aU,ar,a6,aK,ad,af,aa⟩:=hm.fX (cA:=rows.set i (rows[j]'hj)) (off:=i*ie.size) cG db om hY om (λr hr=>by
   grind) (by grind) sm (by grind)
  rw[ae _ sm]at ad aa
  rw[hh]at ar
  cases ar
  have st1:=xN P k (i*ie.size) T fz Y 0 arr w hh a6 om oY
  rw[D5]at st1
  obtain⟨w1,a7⟩:=eX (yB w k (.cells (yC arr (i*ie.size) Y) T fz))
  obtain⟨I1,a8⟩:=eX (I.set id (.cj (rows.set i (rows[j]'hj)) ie.size))
  rw[a7]at ad af st1
  rw[a8]at ad aa
  have aL:id<I.length:=(by grind)
  have au:I1[id]? =some (.cj (rows.set i (rows[j]'hj)) ie.size):=by grind
  have aA: ∀r∈rows.set i (rows[j]'hj),r.length=ie.size:=(by grind)
  have ak:((rows.set i (rows[j]'hj)).set j (rows[i]'hi)).flatten=putCells (rows.set i (rows[j]'hj)).flatten (j*ie.size) (rows[i]'hi):=by
   have hr:=hu _ (A8 hi)
   have h5:=Ik (s:=ie.size) (vs:=rows[i]'hi) (rows:=rows.set i (rows[j]'hj)) j 0 aA (by grind) om
   have e5:putCells ((rows.set i (rows[j]'hj)).getD j []) 0 (rows[i]'hi)=rows[i]'hi:=by
    simp_all[putCells]
   grind
  have aB:bP (cW w1 L I1 J) (rows[i]'hi) X:=hX.imp λ_ _ r=>r.mono af aa
  have aC: ∀n:Nat,n=rows.length->J.set id (.slice (some ⟨k,0,none⟩) n c0)=J:=ae
  obtain⟨av,T2,aD,aE,aF,aP,al,aw,ab⟩:=ad.fX (cA:=(rows.set i (rows[j]'hj)).set j (rows[i]'hi)) (off:=j*ie.size) (n:=rows.length) au db om aB (by grind) (λr hr=>by
   grind) ak sm (by grind)
  rw[ae _ sm]at al ab
  have st2:=xN P k (j*ie.size) T2 aD X 0 av w1 aE aF om oX
  rw[D5]at st2
  have aG:I1.set id (.cj ((rows.set i (rows[j]'hj)).set j (rows[i]'hi)) ie.size)=I.set id (.cj ((rows.set i (rows[j]'hj)).set j (rows[i]'hi)) ie.size):=by grind[List.set_set]
  rw[aG]at al ab
  refine⟨.tuple #[],.cy [],_,L,_,J, ?_,hk,al,af.trans aw,aa.trans ab,⟨[],rfl,tV⟩⟩
  have i0: ¬((i:Int)<0):=om
  have i1: ¬((i:Int)≥(rows.length:Int)):=om
  have j0: ¬((j:Int)<0):=om
  have j1: ¬((j:Int)≥(rows.length:Int)):=om
  rw[hF]
  show((ReflectliteSwapper.swap gS #[.int .i64 i,.int .i64 j,.slice (some ⟨k,0,none⟩) rows.length cap,typeHandle P e]).run P w).andThen _=_
  rw[rl_swap]
  cases gS<;>simp[i0,i1,j0,j1,ofHandle,handleType,typeHandle,ReflectliteSwapper.exchange,sizeOf,rl_info e ie aj,Addr.add_lit,l1,l2,storeVar,Value.cells,lX,lY,st1,st2,Result.andThen]
theorem ZA {gS:Bool} (hF: ∀args w,(callFunc F args).run P w=((ReflectliteSwapper.swap gS args).run P w).andThen λv w'=> .ok (.value v) w') (ab:P.info? e=some ie) (aa: ∀w,(isAgg e).run P w= .ok true w)
  {id i j s:Nat} {rows R:List (List V)} (hs:ie.size=s) (hn:rows.length=n) (cG:I[id]? =some (.cj rows s)) (hi:i<n) (hj:j<n) (hR:R=(rows.set i (rows.getD j [])).set j (rows.getD i []))
  (hk:K (.cy []) (I.set id (.cj R s))):iZ P c (.fn F [.cJ id s n 0 n,.raw (typeHandle P e)]) [.int .i64 i,.int .i64 j] I K fx:=by
 subst hs
 subst hn
 refine Zz hF ab aa cG hi hj ?_
 grind
theorem ZB (hF: ∀args w,(callFunc F args).run P w=((ReflectliteValue.unpack (args.getD 0 (.tuple #[]))).run P w).andThen λv w'=> .ok (.value v) w') (hi:P.info? t=some i) (hd:i.desc= .slice e)
  {id s:Nat} (hk:K (.agg [.raw (typeHandle P t),.ptr I.length 0,.int .u64 151]) (I++ [.box [.cJ id s n 0 m]])):iZ P c (.fn F []) [.gJ t [.cJ id s n 0 m]] I K fx:=by
 refine⟨F,[],rfl,.inr λw L J aa hm ha=> ?_⟩
 match aa,ha with
 | [v1],⟨h1,_⟩=>
  obtain⟨y,rfl,hy,_⟩:=h1
  have ab:gD w L I J (.cJ id s n 0 m) y:=hy
  obtain⟨a,cap,rfl,_⟩:=hy
  obtain⟨h2,h3⟩:=hm.box [.cJ id s n 0 m] #[.slice a m cap] t (by trivial)
  refine⟨_,_,_,L,_,_, ?_,hk,h2,h3,Ext.push I J hm.len _ _,⟨[typeHandle P t,.pointer (some ⟨w.heap.size,0,none⟩),.int .u64 151],rfl, ?_,⟨w.heap.size, ?_,rfl⟩,cF.int _ _,tV⟩⟩
  .rw[hF]
   show((ReflectliteValue.unpack (.iface t (.slice a m cap))).run P w).andThen _=_
   rw[run_valueOf_slice t e i hi hd]
   rfl
  .exact cF.raw _ rfl
  .rw[<-hm.len,Ar om];simp
theorem ZC {G:FuncId} (hF: ∀args w,(callFunc F args).run P w=((ReflectliteSwapper.swapper "internal/reflectlite" (ReflectliteValue.valueError "Swapper") args).run P w).andThen λv w'=> .ok (.value v) w') (hi:P.info? t=some i) (hd:i.desc= .slice e) (MU:P.info? e=some ie)
  {ke:Nat} (ZD: ∀w,(kind e).run P w= .ok ke w) {id s:Nat} (hG:P.funcs.findIdx? (·.name== "internal/reflectlite" ++ ".Swapper$" ++toString (swapperK m ie ke))=some G)
  (hk:K (.fn G (if swapperK m ie ke<=2 then []else [.cJ id s n 0 m,.raw (typeHandle P e)])) I):iZ P c (.fn F []) [.gJ t [.cJ id s n 0 m]] I K fx:=by
 refine⟨F,[],rfl,.inr λw L J jP hm ha=> ?_⟩
 match jP,ha with
 | [v1],⟨h1,_⟩=>
  obtain⟨y,rfl,hy,_⟩:=h1
  have ZE:gD w L I J (.cJ id s n 0 m) y:=hy
  obtain⟨a,cap,rfl,_⟩:=hy
  refine⟨.func (.func G) #[] (if swapperK m ie ke<=2 then #[]else #[.slice a m cap,typeHandle P e]),_,w,L,I,J, ?_,hk,hm,Le.refl _ _,Ext.refl _ _, ?_⟩
  .rw[hF]
   show((ReflectliteSwapper.swapper _ _ #[.iface t (.slice a m cap)]).run P w).andThen _=_
   rw[run_swapper_slice t e i ie hi hd MU ke ZD a m cap G hG]
   rfl
  .split
   .exact⟨[],rfl,tV⟩
   .exact⟨[.slice a m cap,typeHandle P e],rfl,ZE,cF.raw _ rfl,tV⟩
theorem ZF (hF: ∀args w,(callFunc F args).run P w=((ReflectliteValue.method (ReflectliteValue.valueError "reflectlite.Value.Len" 0) ReflectliteValue.len args).run P w).andThen λv w'=> .ok (.value v) w') (hi:P.info? t=some i) (hd:i.desc= .slice e) (ZG:P.packed t=false)
  {id s:Nat} (cG:I[k]? =some (.box [.cJ id s n 0 m])) (hk:K (.int .i64 m) I):iZ P c (.fn F []) [.agg [.raw (typeHandle P t),.ptr k 0,.int .u64 151]] I K fx:=by
 refine⟨F,[],rfl,.inr λw L J jP hm ha=> ?_⟩
 match jP,ha with
 | [v1],⟨h1,_⟩=>
  obtain⟨xs,rfl,h2⟩:=h1
  match xs,h2 with
  | [x1,x2,x3],⟨g1,g2,g3,_⟩=>
   have e1:x1=typeHandle P t:=by cases g1;rfl
   have e3:x3= .int .u64 151:=by cases g3;rfl
   subst e1;subst e3
   obtain⟨b,db,rfl⟩:=g2
   obtain⟨b',arr,T,fz,eb,hh,hf,hL,hc⟩:=hm.dd k _ _ cG db
   cases eb
   obtain⟨z,hz,hr⟩:=hc.get 0 _ rfl
   obtain⟨a,cap,rfl,_⟩:=hr
   refine⟨_,_,w,L,I,J, ?_,hk,hm,Le.refl _ _,Ext.refl _ _,cF.int _ _⟩
   rw[hF]
   show((ReflectliteValue.method (ReflectliteValue.valueError "reflectlite.Value.Len" 0) ReflectliteValue.len #[.agg #[typeHandle P t,.pointer (some ⟨b,0,none⟩),.int .u64 151]]).run P w).andThen _=_
   rw[run_valueLen_slice t e i hi hd ZG ⟨b,0,none⟩ a m cap w (by grind[World.cell?])]
   rfl
end
end Go.Vx
