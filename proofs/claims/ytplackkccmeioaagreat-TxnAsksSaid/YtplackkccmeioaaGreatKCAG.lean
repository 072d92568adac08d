/-
  internal/reflectlite's Swapper over trees: the function literal that it hands back changes two rows of a list of one's own (the kit's law of it, lifted).
  No condition: a library text; nothing of the program is named.
-/
import Derived.Test.YtplackkccmeioaaGreatKCAF
import Derived.Shelf.SlSortCmp.NoneTotal
import Derived.Lib.ReflectliteSwap
import Derived.Lib.ReflectliteSlice
set_option maxHeartbeats 8000000
namespace Go.Vx
open Go Go.Shelf Go.Sort Go.Proofs
structure SE (s:Nat) where
 n:Int
 t:aiZ
 rest:aj1
 len:rest.length+2=s
 one: ∀v∈rest,v.oneCell'=true
def SE.enc {s:Nat} (x:SE s):aj1:= .int .i64 x.n:: .string ⟨x.t.toArray⟩::x.rest
def SE.key {s:Nat} (x:SE s):Int×aiZ:=(x.n,x.t)
@[instance_reducible] def Z9 {s:Nat} (h:2<=s):Inhabited (SE s):=⟨⟨0,[],List.replicate (s - 2) (.int .i64 0),by simp;omega,λv hv=>by
 rw[List.eq_of_mem_replicate hv];rfl⟩⟩
theorem SE.mz {s:Nat} (x:SE s):x.enc.length=s:=by simp[SE.enc,<-x.len]
theorem SE.wq {s:Nat} (x:SE s): ∀v∈x.enc,v.oneCell'=true:=λv hv=>by
 simp only[SE.enc,Ae]at hv
 rcases hv with rfl|rfl|hv
 .rfl
 .rfl
 .exact x.one v hv
theorem bP.DQ {U J:Type} {R:U->J->Prop} {ds ab:List J} (hp:ds.Perm ab): ∀{xs:List U},bP R xs ds-> ∃aa,xs.Perm aa/\bP R aa ab:=by
 induction hp with
 |nil=>intro xs h;cases xs with
  |nil=>exact⟨[],.refl _,tV⟩
  |cons _ _=>exact h.elim
 |cons d _ ih=>
  intro xs h
  cases xs with
  |nil=>exact h.elim
  |cons x xs=>
   obtain⟨aa,h1,h2⟩:=ih h.2
   exact⟨x::aa,h1.cons x,h.1,h2⟩
 |swap a b l=>
  intro xs h
  match xs,h with
  |x::y::xs,h=>exact⟨y::x::xs,.swap y x xs,h.2.1,h.1,h.2.2⟩
  | [_],h=>exact h.2.elim
  | [],h=>exact h.elim
 |trans _ _ ad ae=>
  intro xs h
  obtain⟨ah,h1,h2⟩:=ad h
  obtain⟨af,h3,h4⟩:=ae h2
  exact⟨af,h1.trans h3,h4⟩
theorem bP.split {U J:Type} {R:U->J->Prop}: ∀{l l':List U} {m:List J},bP R (l++l') m-> ∃m1 m2,m=m1++m2/\bP R l m1/\bP R l' m2
 | [],l',m,h=>⟨[],m,rfl,tV,h⟩
 |a::l,l',[],h=>h.elim
 |a::l,l',b::m,h=>by
  obtain⟨m1,m2,rfl,h1,h2⟩:=bP.split h.2
  exact⟨b::m1,m2,rfl,⟨h.1,h1⟩,h2⟩
section
variable {P:Program} {c:Ctx} {w:World} {L:Nat->Nat} {I:St} {J:aj1}
theorem RY {s:Nat} {X:Type} {f:X->List V} {kx:X->Int×aiZ} (hf: ∀x,∃rest,f x= .int .i64 (kx x).1:: .str (kx x).2::rest/\rest.length+2=s):
  ∀(xs:List X) (aa:aj1),bP (df w L I J) ((xs.map f).flatten) aa-> ∃ds:List (SE s),ds.flatMap SE.enc=aa/\bP (λx d=>bP (df w L I J) (f x) d.enc/\d.key=kx x) xs ds
 | [],aa,h=>by
  cases aa with
  |nil=>exact⟨[],rfl,tV⟩
  |cons _ _=>exact h.elim
 |x::xs,aa,h=>by
  rw[Aj,Cz]at h
  obtain⟨m1,m2,rfl,h1,h2⟩:=bP.split h
  obtain⟨ds,h3,h4⟩:=RY hf xs m2 h2
  obtain⟨rest,hr,hl⟩:=hf x
  have ab:=h1
  rw[hr]at h1
  match m1,h1 with
  |v1::v2::vr,⟨a1,a2,a3⟩=>
   have e1:v1= .int .i64 (kx x).1:=yO (dD.dK a1)
   have e2:v2= .string ⟨(kx x).2.toArray⟩:=lh (dD.dK a2)
   subst e1 e2
   have hlen:=a3.length
   refine⟨⟨(kx x).1,(kx x).2,vr,om,λv hv=> ?_⟩::ds, ?_,⟨?_,rfl⟩,h4⟩
   .obtain⟨q,_,hq⟩:=a3.nh hv
    exact hq.dG
   .rw[Bw,h3];rfl
   .exact ab
  | [],h1=>exact h1.elim
  | [_],⟨_,h1⟩=>exact h1.elim
theorem xw4 {W w':World} {L0 L':Nat->Nat} {I':St} {J':aj1} (h:Mem (entry W L0 [] []) w' L' I' J'): ∃q aa,w'=Sort.grow (W.drewN q) aa:=by
 refine⟨w'.drawn - W.drawn,w'.heap.extract W.heap.size w'.heap.size, ?_⟩
 have h1:w'.heap=W.heap++w'.heap.extract W.heap.size w'.heap.size:=by
  have hs:W.heap.size<=w'.heap.size:=h.size
  apply Array.ext
  .simp;omega
  .intro i hi ab
   by_cases q:i<W.heap.size
   .have:=(h.same i q (by simp[entry,uz])).1
    have e1:w'.heap[i]? =some w'.heap[i]:=B3 hi
    have e2:W.heap[i]? =some W.heap[i]:=B3 q
    rw[Array.getElem_append_left q]
    have this:w'.heap[i]? =W.heap[i]? :=this
    rw[e1,e2]at this
    exact aiM this
   .rw[Array.getElem_append_right om]
    simp only[Array.getElem_extract]
    congr 1;omega
 have h2:w'.os=W.os:=h.os
 have h3:w'.tape=W.tape:=h.tape
 have h4:w'.output=W.output:=h.output
 have h5:W.drawn<=w'.drawn:=h.drawn
 obtain⟨hp,tp,dr,os,out⟩:=w'
 simp only at h1 h2 h3 h4 h5
 unfold Sort.grow World.drewN
 simp only
 rw[<-h1,<-h2,<-h3,<-h4,show W.drawn+(dr - W.drawn)=dr by omega]
theorem Mem.ahead (h:Mem c w L I J) (n:Nat):Mem c (Sort.ahead w n) L I J/\Le w L (Sort.ahead w n) L:=by
 have hle:Le w L (Sort.ahead w n) L:=⟨λ_=>A7 _,λ_ _ _=>rfl⟩
 refine⟨⟨h.len,λi o x hi hx=>(h.di i o x hi hx).step hle (Ext.refl _ _) λb hb=>⟨rfl,rfl⟩,h.apart,h.fW,h.same,h.le.trans hle,h.size,h.os,h.tape,h.output,Aw h.drawn (Nat.le_add_right _ _),h.lim,h.ext,h.jD⟩,hle⟩
theorem Mem.grow (h:Mem c w L I J) (os:Array Go.Obj):Mem c (Sort.grow w os) L I J/\Le w L (Sort.grow w os) L:=by
 have hb: ∀b,b<w.heap.size->(Sort.grow w os).heap[b]? =w.heap[b]? :=λb hb=>by
  show(w.heap++os)[b]? =_
  rw[Dm hb]
 have hle:Le w L (Sort.grow w os) L:=by
  refine⟨λ_=>A7 _,λb o ho=> ?_⟩
  have:b<w.heap.size:=by
   rcases Bv b w.heap.size with q|q
   .exact q
   .rw[h.lim b q]at ho;omega
  exact BL (hb b this) o
 refine⟨⟨h.len,λi o x hi hx=>(h.di i o x hi hx).step hle (Ext.refl _ _) λb ab=>⟨hb b ((h.di i o x hi hx).eN ab),rfl⟩,h.apart,h.fW,λb aa hx=> ?_,h.le.trans hle, ?_,h.os,h.tape,h.output,h.drawn,λb aa=> ?_,h.ext,h.jD⟩,hle⟩
 .have:=h.same b aa hx
  exact⟨(hb b (Dg aa h.size)).trans this.1,this.2⟩
 .have:(Sort.grow w os).heap.size=w.heap.size+os.size:=by show(w.heap++os).size=_;simp
  rw[this];exact Aw h.size (Nat.le_add_right _ _)
 .have:(Sort.grow w os).heap.size=w.heap.size+os.size:=by show(w.heap++os).size=_;simp
  rw[this]at aa
  exact h.lim b om
theorem yC0 {b:Nat} {arr:aj3} {T:TypeId} {fz:Nat×Nat} (h:w.heap[b]? =some (.cells arr T fz)) (f:aj3->aj3):mapBlock w b f=yC w b (.cells (f arr) T fz):=by
 have hb:b<w.heap.size:=(Br.1 h).1
 have hx:w.heap[b]'hb= .cells arr T fz:=by
  rw[B3 hb]at h
  exact aiM h
 unfold mapBlock yC
 congr 1
 apply Array.ext
 .simp
 .intro i h1 h2
  rw[Array.getElem_modify,Array.getElem_setIfInBounds]
  .by_cases q:b=i
   .subst q
    rw[aiv rfl,aiv rfl,hx]
    rfl
   .rw[aiu q,aiu q]
theorem ye2 (F arr:aj3) (h:F.size<=arr.size):Go.Sort.putCells id 0 F arr=yD arr 0 F.toList:=by
 unfold Go.Sort.putCells
 apply Array.ext
 .simp[yJ]
 .intro i h1 h2
  have hi:i<arr.size:=sU h1
  have hs:=wO F.toList arr 0 i (sU h)
  rw[B3 h2]at hs
  by_cases q:i<F.size
  .rw[aiv (sU q)]at hs
   simp only[Nat.sub_zero,Aq,B3 q,aiy]at hs
   rw[hs,Array.getElem_mapIdx]
   simp[q]
  .rw[aiu (sU q),B3 hi,aiy]at hs
   rw[hs,Array.getElem_mapIdx]
   simp[q]
theorem RZ {s:Nat} (hs:0<s) [Inhabited (SE s)] (d:Array (SE s)):(Go.Sort.flatK SE.enc s d).toList=d.toList.flatMap SE.enc:=by
 have hu: ∀r∈d.toList.map SE.enc,r.length=s:=λr hr=>by
  obtain⟨x,_,rfl⟩:=Ac.1 hr
  exact x.mz
 have aa:d.toList.flatMap SE.enc=(d.toList.map SE.enc).flatten:=List.flatMap_def ..
 have ab:(d.toList.map SE.enc).flatten.length=d.size*s:=by rw[yB hu];simp
 rw[aa]
 apply Bi
 intro t
 rw[Aq]
 by_cases ht:t<d.size*s
 .have h1:t<(Go.Sort.flatK SE.enc s d).size:=by rw[size_flatK];exact ht
  have h2:=get_flatK SE.enc s d t ht
  rw[aiS _ t h1]at h2
  rw[B3 h1,h2]
  have hq:t/s<d.size:=Nat.div_lt_of_lt_mul (by rw[Dt];exact ht)
  have hr:t%s<s:=Cr _ hs
  have h3:=yQ (rows:=d.toList.map SE.enc) (t/s) (t%s) hu hr
  rw[show t/s*s+t%s=t by rw[Dt];exact D1 t s]at h3
  rw[h3,B6,Aq,B3 hq,aiS d _ hq]
  simp only[Bb,Ax]
  have hl:t%s<(SE.enc d[t/s]).length:=by rw[SE.mz];exact hr
  rw[A0 hl,aiS (SE.enc d[t/s]) (t%s) hl]
 .rw[Array.getElem?_eq_none (by rw[size_flatK];omega),Dk om]
theorem R1 {s:Nat} {X:Type} {f:X->List V} {p:X->SE s->Prop}: ∀{xs:List X} {ds:List (SE s)},bP (λx d=>bP (df w L I J) (f x) d.enc/\p x d) xs ds->bP (df w L I J) (xs.map f).flatten (ds.flatMap SE.enc)
 | [],[],_=>trivial
 |x::xs,d::ds,h=>by
  rw[Aj,Cz,Bw]
  exact bP.append h.1.1 (R1 h.2)
 | [],_::_,h=>h.elim
 |_::_,[],h=>h.elim
theorem xz7 {ρ:Ren} (La:SlLaysF0.n6 P ρ) {s:Nat} (hs:2<=s) (aE: ∀w,(isAgg (ρ.t 24)).run P w= .ok true w) (zE: ∀w,(Go.sizeOf (ρ.t 24)).run P w= .ok s w) {gf:Nat} (hgb:xE P gf)
  {C:Int×aiZ->Int×aiZ->Int} (hO:SWO λa b=>decide (C a b<0))
  (hg: ∀x y:Int×aiZ,Pure P gf [.agg (.int .i64 x.1:: .str x.2::List.replicate (s - 2) .u),.agg (.int .i64 y.1:: .str y.2::List.replicate (s - 2) .u)] (.int .i64 (C x y)))
  {X:Type} {f:X->List V} {kx:X->Int×aiZ} (hf: ∀x,∃rest,f x= .int .i64 (kx x).1:: .str (kx x).2::rest/\rest.length+2=s) {id:Nat} {xs:List X}
  (hm:Mem c w L I J) (cJ:I[id]? =some (.cj (xs.map f) s)) (hlen:xs.length<4611686018427387904) {v:Value} (hv:dD w L I J (.cM id s xs.length 0 xs.length) v):
  Calls P (ρ.f 6) #[v,.func (.func gf) #[] #[]] w λe w'=>e= .returned (.tuple #[])/\ ∃qM,xs.Perm qM/\qM.Pairwise (λa b=> ¬C (kx b) (kx a)<0)/\
   Mem c w' L (I.set id (.cj (qM.map f) s)) J/\Le w L w' L/\Ext I J (I.set id (.cj (qM.map f) s)) J:=by
 haveI:=Z9 hs
 obtain⟨a,cap,rfl,⟨hc1,_⟩,_,hv⟩:=hv
 rcases hv with hd|⟨rows,HD,hn,hb⟩
 .rw[cJ]at hd;cases hd
 rw[cJ]at HD
 obtain rfl:xs.map f=rows:=by cases HD;rfl
 obtain⟨bb,c0,dh,dq,_,hblk⟩:=hb sm
 have HE:I.set id (.cj (xs.map f) s)=I:=yN I id _ cJ
 by_cases hx0:xs.length=0
 .obtain rfl:xs= []:=As hx0
  refine(AnyF.slices_SortFunc_none (P:=P) (ρ:=ρ) La a cap (.func (.func gf) #[] #[]) w).mono ?_
  rintro e w' ⟨rfl,rfl⟩
  exact⟨rfl,[],.refl _,List.Pairwise.nil,by rw[HE];exact hm,Le.refl _ _,by rw[HE];exact Ext.refl _ _⟩
 have HF:0<c0:=om
 obtain⟨k,rfl,rfl⟩:=hblk HF
 obtain⟨a',aa6,e,AN,hs0,hu,cQ⟩:=hm.di id _ _ cJ dh
 simp only[Ag]at e
 cases e
 obtain⟨b',arr,T,fz,e,hh,hfz,G2,hL,ta⟩:=cQ HF
 cases e
 have hkl:k<w.heap.size:=(Br.1 hh).1
 simp only[Ag]at AN ta
 obtain⟨ds,hds,HG⟩:=RY hf xs _ ta
 have hdl:=HG.length
 have hns:xs.length*s<=arr.size:=Aw (Ak s AN) G2
 have Nz:=RZ om ds.toArray
 have mA:ds.toArray.size=xs.length:=by simp[hdl]
 have hH:HoldsK SE.enc s w k 0 ds.toArray:=by
  intro j hj
  rw[size_flatK,mA]at hj
  have h1:(Go.Sort.flatK SE.enc s ds.toArray).toList[j]? =arr[j]? :=by
   rw[Nz,hds,Ap,aiv hj,Aq]
  have NA:j<arr.size:=om
  have R2:j<(Go.Sort.flatK SE.enc s ds.toArray).size:=by rw[size_flatK,mA];exact hj
  rw[Aq,B3 R2,B3 NA,aiy]at h1
  refine⟨?_, ?_⟩
  .rw[aiS _ j R2,h1]
   simp[World.cell?,hh,NA]
  .have:=hfz.1 j NA
   simp[World.frozen?,hh]
   omega
 obtain⟨fn,Mo,sQ,sR⟩:=Jh hgb
 have eg: ∀args w,(callFunc gf args).run P w= .ok (.enter gf args) w:=λargs w=>by
  have Mq: ¬fn.body=none:=by intro q;simp[q]at sR
  have G1: ¬fn.name= "runtime.NumGoroutine" :=sU sQ
  simp[callFunc,Mo,G1,Mq]
 let cf:SE s->SE s->Int:=λx y=>C x.key y.key
 have hOc:SWO (ltOf cf):=⟨λx=>hO.irrefl _,λx y z=>hO.trans _ _ _,λx y z=>hO.ntrans _ _ _⟩
 have R3: ∀(W:World) (x:SE s),dD W L [] [] (.agg (.int .i64 x.key.1:: .str x.key.2::List.replicate (s - 2) .u)) (.agg x.enc.toArray):=λW x=>by
  refine⟨x.enc,rfl,df.dw (.int _ _),df.dw (.str _), ?_⟩
  have hl:x.rest.length=s - 2:=by have:=x.len;omega
  rw[<-hl]
  have ho:=x.one
  generalize x.rest=r at ho
  induction r with
  |nil=>trivial
  |cons v r ih=>exact⟨ho v sm,ih λu hu=>ho u (by simp[hu])⟩
 have NB:CmpLays P gf #[] SE.enc s cf k 0 ds.toArray.size w:=by
  intro m os dk _ x y
  generalize hW:sortWorldK SE.enc s w k 0 m dk os=W
  have HH: ∀b,b≠k->b<w.heap.size->W.heap[b]? =w.heap[b]? :=λb hb hbl=>by
   rw[<-hW]
   show((putRowK SE.enc s (Sort.ahead w m) k 0 dk).heap++os)[b]? =_
   have DR:(putRowK SE.enc s (Sort.ahead w m) k 0 dk).heap.size=w.heap.size:=by unfold putRowK;rw[Go.Sort.size_putRow];rfl
   rw[Dm (by rw[DR];exact hbl)]
   show(w.heap.modify k _)[b]? =_
   rw[Array.getElem?_modify,aiu (λq=>hb q.symm)]
  have NC:w.heap.size<=W.heap.size:=by
   rw[<-hW]
   show _<=((putRowK SE.enc s (Sort.ahead w m) k 0 dk).heap++os).size
   have DR:(putRowK SE.enc s (Sort.ahead w m) k 0 dk).heap.size=w.heap.size:=by unfold putRowK;rw[Go.Sort.size_putRow];rfl
   rw[Array.size_append,DR];omega
  have ND:Le w L W L:=by
   refine⟨λ_=>A7 _,λb o ho=> ?_⟩
   have G1:b≠k:=λq=>by subst q;rw[hL]at ho;omega
   have:b<w.heap.size:=by
    rcases Bv b w.heap.size with q|q
    .exact q
    .rw[hm.lim b q]at ho;omega
   exact BL (HH b G1 this) o
  have hmW:Mem (entry W L [] []) W L [] []:=
   ⟨rfl,λi o x ho _=>by simp at ho,λi j o o' x x' b _ ho _ _ _ _=>by simp at ho,λi o x b ho _ _=>by simp at ho,λb _ _=>⟨rfl,rfl⟩,Le.refl _ _,A7 _,rfl,rfl,rfl,A7 _,λb hb=>hm.lim b (Aw NC hb),Ext.refl _ _,(hm.jD.mono hm.le).mono ND⟩
  have nr:=hg x.key y.key W L [] [.agg x.enc.toArray,.agg y.enc.toArray] hmW ⟨R3 W x,R3 W y,tV⟩
  have e1:(#[.agg x.enc.toArray,.agg y.enc.toArray]++ #[]:aj3)= [Value.agg x.enc.toArray,Value.agg y.enc.toArray].toArray:=sm
  rw[e1]
  refine nr.mono ?_
  rintro e w' ⟨v,r,L',I',J',rfl,⟨rfl,rfl⟩,_,hm',BZ⟩
  exact⟨by rw[yO BZ],xw4 hm'⟩
 rw[Cv,<-mA]
 refine(AnyQ.slices_SortFunc (P:=P) (ρ:=ρ) La s aE zE SE.enc (λx=>x.mz) (λx=>x.wq) cf hOc gf #[] k 0 cap ds.toArray w eg NB hH hkl (by rw[mA];exact hlen)).mono ?_
 rintro e w' ⟨rfl,d',nn,os,⟨tj,_,Ki⟩,wu,rfl⟩
 have aag:d'.toList.length=xs.length:=by rw[Cq,tj,mA]
 have Ki:d'.toList.Perm ds:=by
  have e1:d'.extract 0 ds.toArray.size=d':=by rw[<-tj];simp
  have e2:ds.toArray.extract 0 ds.toArray.size=ds.toArray:=sm
  rw[e1,e2]at Ki
  exact Ki
 obtain⟨qM,R4,AO⟩:=bP.DQ Ki.symm HG
 have NF:=R4.length_eq
 refine⟨rfl,qM,R4, ?_, ?_⟩
 .rw[Ct]
  intro i j hi hj hij
  have R5:i<d'.size:=by rw[tj,mA];omega
  have R6:j<d'.size:=by rw[tj,mA];omega
  have h1:=wu i j (A3 _) hij (by rw[mA];omega)
  rw[aiS d' i R5,aiS d' j R6]at h1
  have key: ∀(q:Nat) (hq:q<qM.length) (R7:q<d'.size),d'[q].key=kx qM[q]:=λq hq R7=>by
   obtain⟨b,hb,r⟩:=AO.get q _ (A0 hq)
   rw[Aq,B3 R7,aiy]at hb
   rw[hb];exact r.2
  have h2:decide (C d'[j].key d'[i].key<0)=false:=h1
  rw[key i hi R5,key j hj R6]at h2
  exact aiG h2
 .obtain⟨hm1,HI⟩:=hm.ahead nn
  have R8:eI s (qM.map f):=λr hr=>by
   obtain⟨x,_,rfl⟩:=Ac.1 hr
   obtain⟨rest,h1,h2⟩:=hf x
   rw[h1];simp;omega
  have NG:=yB hu
  have NH:=yB R8
  have hv2:bP (df (Sort.ahead w nn) L I J) (qM.map f).flatten (d'.toList.flatMap SE.enc):=(R1 AO).imp λ_ _=>df.mono HI (Ext.refl _ _)
  have NI:(qM.map f).flatten=putCells (xs.map f).flatten 0 (qM.map f).flatten:=by
   unfold putCells
   rw[E2,C7,Bp (by rw[NG,Ad,NH];simp[NF]),Ay]
  obtain⟨NJ,T2,fz2,h1,_,h3,h4,h5,h6⟩:=hm1.gi (off:=0) cJ dh HF hv2 (A3 _) R8 NI (by simp[NF]) (by simp only[Ag];omega)
  have R9:w.heap[k]? =some (.cells NJ T2 fz2):=h1
  rw[hh]at R9
  cases R9
  have NK:J.set id (.slice (some ⟨k,0,none⟩) (qM.map f).length c0)=J:=yN J id _ (by rw[dh];simp[NF])
  rw[NK]at h4 h6
  have hfd:=RZ om d'
  have HJ:putRowK SE.enc s (Sort.ahead w nn) k 0 d'=yC (Sort.ahead w nn) k (.cells (yD arr 0 (d'.toList.flatMap SE.enc)) T fz):=by
   unfold putRowK Go.Sort.putRow
   rw[yC0 (w:=Sort.ahead w nn) hh,ye2 _ _ (by rw[size_flatK,tj,mA];exact hns),hfd]
  obtain⟨h7,h8⟩:=h4.grow os
  unfold sortWorldK
  rw[HJ]
  exact⟨h7,HI.trans (h5.trans h8),h6⟩
theorem Sa {ρ:Ren} (La:SlLaysF0.n6 P ρ) {F:Nat} (hF:ρ.f 6=F) (ae:xE P F) {s:Nat} (hs:2<=s) (aE: ∀w,(isAgg (ρ.t 24)).run P w= .ok true w) (zE: ∀w,(Go.sizeOf (ρ.t 24)).run P w= .ok s w) {gf:Nat} (af:xE P gf)
  {C:Int×aiZ->Int×aiZ->Int} (hO:SWO λa b=>decide (C a b<0))
  (hg: ∀x y:Int×aiZ,Pure P gf [.agg (.int .i64 x.1:: .str x.2::List.replicate (s - 2) .u),.agg (.int .i64 y.1:: .str y.2::List.replicate (s - 2) .u)] (.int .i64 (C x y)))
  {X:Type} {f:X->List V} {kx:X->Int×aiZ} (hf: ∀x,∃rest,f x= .int .i64 (kx x).1:: .str (kx x).2::rest/\rest.length+2=s) {id:Nat} (xs:List X)
  (cJ:I[id]? =some (.cj (xs.map f) s)) (hlen:xs.length<4611686018427387904) {K:V->St->Prop}
  (hk: ∀aa,xs.Perm aa->aa.Pairwise (λa b=> ¬C (kx b) (kx a)<0)->K (.cy []) (I.set id (.cj (aa.map f) s))):
  jm P c (.fn F []) [.cM id s xs.length 0 xs.length,.fn gf []] I K fx:=by
 refine⟨F,[],rfl,.inl ⟨Jh ae,λw L J ab hm ha=> ?_⟩⟩
 match ab,ha with
 | [v1,v2],⟨h1,h2,_⟩=>
  obtain⟨ys,rfl,hy⟩:=h2
  cases ys with
  |cons _ _=>exact hy.elim
  |nil=>
   have:=xz7 (c:=c) La hs aE zE af hO hg hf hm cJ hlen h1
   rw[hF]at this
   refine this.mono ?_
   rintro e w' ⟨rfl,aa,hp,ah,ai,hle,ad⟩
   exact⟨.tuple #[],.cy [],L,_,J,rfl,hk aa hp ah,ai,hle,ad,[],rfl,tV⟩
end
end Go.Vx
namespace Go.Vx
open Go Go.Extern Go.Extern.Rtype Go.Lib Go.RowKit
section
variable {P:Program} {c:Ctx} {w:World} {L:Nat->Nat} {I:St} {J:aj1}
variable {F:FuncId}{e:TypeId}{K:V->St->Prop}{n:Nat}{k:Nat}{ie:TypeInfo}{i:TypeInfo}{t:TypeId}{m:Nat}
theorem yp7 {U:Type} {s:Nat} {rows:List (List U)} (hu: ∀r∈rows,r.length=s) (hk:k<rows.length):(rows.flatten.drop (k*s)).take s=rows[k]:=by
 have hr:=hu _ (A8 hk)
 have hlen:=yB hu
 have aa:(k+1)*s<=rows.length*s:=Ak _ hk
 rw[B4,D7]at aa
 refine Bi λj=> ?_
 by_cases q:j<s
 .rw[List.getElem?_take_of_lt q,C6,yQ k j hu q,A0 hk];rfl
 grind
theorem Sb {rows:List (List V)} {s:Nat} {arr:aj3} (hu: ∀r∈rows,r.length=s) (ha:bP (df w L I J) rows.flatten (arr.toList.take (rows.length*s))) (hk:k<rows.length):
  bP (df w L I J) (rows[k]) ((arr.toList.drop (k*s)).take s):=by
 have aa:(k+1)*s<=rows.length*s:=Ak _ hk
 rw[B4,D7]at aa
 have h:=(bP.drop (k*s) ha).take s
 grind[yp7,List.drop_take]
theorem Sc {vs:List V} {xs:aj1} (h:bP (df w L I J) vs xs): ∀x∈xs,x.oneCell'=true:=by
 intro x hx
 obtain⟨k,hk⟩:=Ar.1 hx
 have aa:k<vs.length:=by rw[h.length];grind
 obtain⟨z,hz,r⟩:=h.get k _ (A0 aa)
 rw[hk]at hz
 cases hz
 exact r.dG
theorem xS7 {gS:Bool} (hF: ∀args w,(callFunc F args).run P w=((ReflectliteSwapper.swap gS args).run P w).andThen λv w'=> .ok (.value v) w') (aj:P.info? e=some ie) (ah: ∀w,(isAgg e).run P w= .ok true w)
  {id i j:Nat} {rows:List (List V)} (cJ:I[id]? =some (.cj rows ie.size)) (hi:i<rows.length) (hj:j<rows.length)
  (hk:K (.cy []) (I.set id (.cj ((rows.set i (rows[j]'hj)).set j (rows[i]'hi)) ie.size))):jm P c (.fn F [.cM id ie.size rows.length 0 rows.length,.raw (typeHandle P e)]) [.int .i64 i,.int .i64 j] I K fx:=by
 refine⟨F,_,rfl,.inr λw L J an hm ha=> ?_⟩
 match an,ha with
 | [v1,v2,v3,v4],⟨h1,h2,h3,h4,_⟩=>
  have e1:v1= .int .i64 i:=by cases h1;rfl
  have e2:v2= .int .i64 j:=by cases h2;rfl
  have e4:v4=typeHandle P e:=by cases h4;rfl
  subst e1;subst e2;subst e4
  obtain⟨a,cap,rfl,⟨aQ,_⟩,_,hd|⟨cC,ao,_,hb⟩⟩:=h3
  .grind
  rw[cJ]at ao
  cases ao
  obtain⟨b,c0,dh,aR,_,hblk⟩:=hb rfl
  obtain⟨k,rfl,aq⟩:=hblk om
  rw[Cv]at aq
  subst aq
  obtain⟨a',aH,ex,dq,hs,hu,cQ⟩:=hm.di id _ _ cJ dh
  cases ex
  obtain⟨b',arr,T,fz,eb,hh,hf,aS,hL,ai⟩:=cQ om
  cases eb
  have hX:=Sb hu ai hi
  have hY:=Sb hu ai hj
  obtain⟨X,ax⟩:=eX ((arr.toList.drop (i*ie.size)).take ie.size)
  obtain⟨Y,ay⟩:=eX ((arr.toList.drop (j*ie.size)).take ie.size)
  rw[ax]at hX
  rw[ay]at hY
  have lX:X.length=ie.size:=by rw[<-hX.length];grind
  have lY:Y.length=ie.size:=by rw[<-hY.length];grind
  have oX:=Sc hX
  have oY:=Sc hY
  have az:(i+1)*ie.size<=rows.length*ie.size:=Ak _ hi
  have a1:(j+1)*ie.size<=rows.length*ie.size:=Ak _ hj
  have aT:rows.length*ie.size<=c0*ie.size:=Ak _ dq
  rw[B4,D7]at az a1
  have cX: ∀q v,X[q]? =some v->w.cell? ⟨k,i*ie.size+q,none⟩=some v:=(by grind[World.cell?])
  have cY: ∀q v,Y[q]? =some v->w.cell? ⟨k,j*ie.size+q,none⟩=some v:=(by grind[World.cell?])
  have l1:=rl_loadVar_cells (P:=P) e ie aj ah k (i*ie.size) X lX w cX
  have l2:=rl_loadVar_cells (P:=P) e ie aj ah k (j*ie.size) Y lY w cY
  have ae: ∀n:Nat,n=rows.length->J.set id (.slice (some ⟨k,0,none⟩) n c0)=J:=(by grind[yN])
  have aI: ∀(q:Nat) (hq:q<rows.length) (r:List V),r.length=ie.size->(rows.set q r).flatten=putCells rows.flatten (q*ie.size) r:=λq hq r hr=>by
   have h5:=I6 (s:=ie.size) (vs:=r) (rows:=rows) q 0 hu hq om
   have e5:putCells (rows.getD q []) 0 r=r:=by
    simp_all[putCells]
   grind
  obtain⟨aJ,T1,aU,ar,a6,aK,ad,af,aa⟩:=hm.gi (cC:=rows.set i (rows[j]'hj)) (off:=i*ie.size) cJ dh om hY om (λr hr=>by
   grind) (by grind) sm (by grind)
  rw[ae _ sm]at ad aa
  rw[hh]at ar
  cases ar
  have st1:=xP P k (i*ie.size) T fz Y 0 arr w hh a6 om oY
  rw[D3]at st1
  obtain⟨w1,a7⟩:=eX (yC w k (.cells (yD arr (i*ie.size) Y) T fz))
  obtain⟨I1,a8⟩:=eX (I.set id (.cj (rows.set i (rows[j]'hj)) ie.size))
  rw[a7]at ad af st1
  rw[a8]at ad aa
  have aL:id<I.length:=(by grind)
  have au:I1[id]? =some (.cj (rows.set i (rows[j]'hj)) ie.size):=by grind
  have aA: ∀r∈rows.set i (rows[j]'hj),r.length=ie.size:=(by grind)
  have ak:((rows.set i (rows[j]'hj)).set j (rows[i]'hi)).flatten=putCells (rows.set i (rows[j]'hj)).flatten (j*ie.size) (rows[i]'hi):=by
   have hr:=hu _ (A8 hi)
   have h5:=I6 (s:=ie.size) (vs:=rows[i]'hi) (rows:=rows.set i (rows[j]'hj)) j 0 aA (by grind) om
   have e5:putCells ((rows.set i (rows[j]'hj)).getD j []) 0 (rows[i]'hi)=rows[i]'hi:=by
    simp_all[putCells]
   grind
  have aB:bP (df w1 L I1 J) (rows[i]'hi) X:=hX.imp λ_ _ r=>r.mono af aa
  have aC: ∀n:Nat,n=rows.length->J.set id (.slice (some ⟨k,0,none⟩) n c0)=J:=ae
  obtain⟨av,T2,aD,aE,aF,aP,al,aw,ab⟩:=ad.gi (cC:=(rows.set i (rows[j]'hj)).set j (rows[i]'hi)) (off:=j*ie.size) (n:=rows.length) au dh om aB (by grind) (λr hr=>by
   grind) ak sm (by grind)
  rw[ae _ sm]at al ab
  have st2:=xP P k (j*ie.size) T2 aD X 0 av w1 aE aF om oX
  rw[D3]at st2
  have aG:I1.set id (.cj ((rows.set i (rows[j]'hj)).set j (rows[i]'hi)) ie.size)=I.set id (.cj ((rows.set i (rows[j]'hj)).set j (rows[i]'hi)) ie.size):=by grind[List.set_set]
  rw[aG]at al ab
  refine⟨.tuple #[],.cy [],_,L,_,J, ?_,hk,al,af.trans aw,aa.trans ab,⟨[],rfl,tV⟩⟩
  have i0: ¬((i:Int)<0):=om
  have i1: ¬((i:Int)≥(rows.length:Int)):=om
  have j0: ¬((j:Int)<0):=om
  have j1: ¬((j:Int)≥(rows.length:Int)):=om
  rw[hF]
  show((ReflectliteSwapper.swap gS #[.int .i64 i,.int .i64 j,.slice (some ⟨k,0,none⟩) rows.length cap,typeHandle P e]).run P w).andThen _=_
  rw[rl_swap]
  cases gS<;>simp[i0,i1,j0,j1,ofHandle,handleType,typeHandle,ReflectliteSwapper.exchange,sizeOf,rl_info e ie aj,Addr.add_lit,l1,l2,storeVar,Value.cells,lX,lY,st1,st2,Result.andThen]
theorem xB2 {gS:Bool} (hF: ∀args w,(callFunc F args).run P w=((ReflectliteSwapper.swap gS args).run P w).andThen λv w'=> .ok (.value v) w') (ab:P.info? e=some ie) (aa: ∀w,(isAgg e).run P w= .ok true w)
  {id i j s:Nat} {rows R:List (List V)} (hs:ie.size=s) (hn:rows.length=n) (cJ:I[id]? =some (.cj rows s)) (hi:i<n) (hj:j<n) (hR:R=(rows.set i (rows.getD j [])).set j (rows.getD i []))
  (hk:K (.cy []) (I.set id (.cj R s))):jm P c (.fn F [.cM id s n 0 n,.raw (typeHandle P e)]) [.int .i64 i,.int .i64 j] I K fx:=by
 subst hs
 subst hn
 refine xS7 hF ab aa cJ hi hj ?_
 grind
theorem yW5 (hF: ∀args w,(callFunc F args).run P w=((ReflectliteValue.unpack (args.getD 0 (.tuple #[]))).run P w).andThen λv w'=> .ok (.value v) w') (hi:P.info? t=some i) (hd:i.desc= .slice e)
  {id s:Nat} (hk:K (.agg [.raw (typeHandle P t),.ptr I.length 0,.int .u64 151]) (I++ [.box [.cM id s n 0 m]])):jm P c (.fn F []) [.gV t [.cM id s n 0 m]] I K fx:=by
 refine⟨F,[],rfl,.inr λw L J aa hm ha=> ?_⟩
 match aa,ha with
 | [v1],⟨h1,_⟩=>
  obtain⟨y,rfl,hy,_⟩:=h1
  have ab:gP w L I J (.cM id s n 0 m) y:=hy
  obtain⟨a,cap,rfl,_⟩:=hy
  obtain⟨h2,h3⟩:=hm.box [.cM id s n 0 m] #[.slice a m cap] t (by trivial)
  refine⟨_,_,_,L,_,_, ?_,hk,h2,h3,Ext.push I J hm.len _ _,⟨[typeHandle P t,.pointer (some ⟨w.heap.size,0,none⟩),.int .u64 151],rfl, ?_,⟨w.heap.size, ?_,rfl⟩,cF.int _ _,tV⟩⟩
  .rw[hF]
   show((ReflectliteValue.unpack (.iface t (.slice a m cap))).run P w).andThen _=_
   rw[run_valueOf_slice t e i hi hd]
   rfl
  .exact cF.raw _ rfl
  .rw[<-hm.len,Au om];simp
theorem yW4 {G:FuncId} (hF: ∀args w,(callFunc F args).run P w=((ReflectliteSwapper.swapper "internal/reflectlite" (ReflectliteValue.valueError "Swapper") args).run P w).andThen λv w'=> .ok (.value v) w') (hi:P.info? t=some i) (hd:i.desc= .slice e) (NL:P.info? e=some ie)
  {ke:Nat} (hke: ∀w,(kind e).run P w= .ok ke w) {id s:Nat} (hG:P.funcs.findIdx? (·.name== "internal/reflectlite" ++ ".Swapper$" ++toString (swapperK m ie ke))=some G)
  (hk:K (.fn G (if swapperK m ie ke<=2 then []else [.cM id s n 0 m,.raw (typeHandle P e)])) I):jm P c (.fn F []) [.gV t [.cM id s n 0 m]] I K fx:=by
 refine⟨F,[],rfl,.inr λw L J j7 hm ha=> ?_⟩
 match j7,ha with
 | [v1],⟨h1,_⟩=>
  obtain⟨y,rfl,hy,_⟩:=h1
  have hy2:gP w L I J (.cM id s n 0 m) y:=hy
  obtain⟨a,cap,rfl,_⟩:=hy
  refine⟨.func (.func G) #[] (if swapperK m ie ke<=2 then #[]else #[.slice a m cap,typeHandle P e]),_,w,L,I,J, ?_,hk,hm,Le.refl _ _,Ext.refl _ _, ?_⟩
  .rw[hF]
   show((ReflectliteSwapper.swapper _ _ #[.iface t (.slice a m cap)]).run P w).andThen _=_
   rw[run_swapper_slice t e i ie hi hd NL ke hke a m cap G hG]
   rfl
  .split
   .exact⟨[],rfl,tV⟩
   .exact⟨[.slice a m cap,typeHandle P e],rfl,hy2,cF.raw _ rfl,tV⟩
theorem yF4 (hF: ∀args w,(callFunc F args).run P w=((ReflectliteValue.method (ReflectliteValue.valueError "reflectlite.Value.Len" 0) ReflectliteValue.len args).run P w).andThen λv w'=> .ok (.value v) w') (hi:P.info? t=some i) (hd:i.desc= .slice e) (hpk:P.packed t=false)
  {id s:Nat} (cJ:I[k]? =some (.box [.cM id s n 0 m])) (hk:K (.int .i64 m) I):jm P c (.fn F []) [.agg [.raw (typeHandle P t),.ptr k 0,.int .u64 151]] I K fx:=by
 refine⟨F,[],rfl,.inr λw L J j7 hm ha=> ?_⟩
 match j7,ha with
 | [v1],⟨h1,_⟩=>
  obtain⟨xs,rfl,h2⟩:=h1
  match xs,h2 with
  | [x1,x2,x3],⟨g1,g2,g3,_⟩=>
   have e1:x1=typeHandle P t:=by cases g1;rfl
   have e3:x3= .int .u64 151:=by cases g3;rfl
   subst e1;subst e3
   obtain⟨b,dh,rfl⟩:=g2
   obtain⟨b',arr,T,fz,eb,hh,hf,hL,hc⟩:=hm.di k _ _ cJ dh
   cases eb
   obtain⟨z,hz,hr⟩:=hc.get 0 _ rfl
   obtain⟨a,cap,rfl,_⟩:=hr
   refine⟨_,_,w,L,I,J, ?_,hk,hm,Le.refl _ _,Ext.refl _ _,cF.int _ _⟩
   rw[hF]
   show((ReflectliteValue.method (ReflectliteValue.valueError "reflectlite.Value.Len" 0) ReflectliteValue.len #[.agg #[typeHandle P t,.pointer (some ⟨b,0,none⟩),.int .u64 151]]).run P w).andThen _=_
   rw[run_valueLen_slice t e i hi hd hpk ⟨b,0,none⟩ a m cap w (by grind[World.cell?])]
   rfl
end
end Go.Vx
