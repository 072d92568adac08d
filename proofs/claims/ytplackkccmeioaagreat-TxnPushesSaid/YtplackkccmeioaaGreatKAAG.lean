/-
  internal/reflectlite's Swapper over trees: the function literal that it hands back changes two rows of a list of one's own (the kit's law of it, lifted).
  No condition: a library text; nothing of the program is named.
-/
import Derived.Test.YtplackkccmeioaaGreatKAAF
import Derived.Shelf.SlSortCmp.NoneTotal
import Derived.Lib.ReflectliteSwap
import Derived.Lib.ReflectliteSlice
set_option maxHeartbeats 8000000
namespace Go.Vx
open Go Go.Shelf Go.Sort Go.Proofs
structure SE (s:Nat) where
 n:Int
 t:aiA
 rest:aiC
 len:rest.length+2=s
 one: ∀v∈rest,v.oneCell'=true
def SE.enc {s:Nat} (x:SE s):aiC:= .int .i64 x.n:: .string ⟨x.t.toArray⟩::x.rest
def SE.key {s:Nat} (x:SE s):Int×aiA:=(x.n,x.t)
@[instance_reducible] def ZX {s:Nat} (h:2<=s):Inhabited (SE s):=⟨⟨0,[],List.replicate (s - 2) (.int .i64 0),by simp;omega,λv hv=>by
 rw[List.eq_of_mem_replicate hv];rfl⟩⟩
theorem SE.mB {s:Nat} (x:SE s):x.enc.length=s:=by simp[SE.enc,<-x.len]
theorem SE.wx {s:Nat} (x:SE s): ∀v∈x.enc,v.oneCell'=true:=λv hv=>by
 simp only[SE.enc,Ae]at hv
 rcases hv with rfl|rfl|hv
 .rfl
 .rfl
 .exact x.one v hv
theorem bP.DN {U J:Type} {R:U->J->Prop} {ds ab:List J} (hp:ds.Perm ab): ∀{xs:List U},bP R xs ds-> ∃aa,xs.Perm aa/\bP R aa ab:=by
 induction hp with
 |nil=>intro xs h;cases xs with
  |nil=>exact⟨[],.refl _,tV⟩
  |cons _ _=>exact h.elim
 |cons d _ ih=>
  intro xs h
  cases xs with
  |nil=>exact h.elim
  |cons x xs=>
   obtain⟨aa,h1,h2⟩:=ih h.2
   exact⟨x::aa,h1.cons x,h.1,h2⟩
 |swap a b l=>
  intro xs h
  match xs,h with
  |x::y::xs,h=>exact⟨y::x::xs,.swap y x xs,h.2.1,h.1,h.2.2⟩
  | [_],h=>exact h.2.elim
  | [],h=>exact h.elim
 |trans _ _ ad ae=>
  intro xs h
  obtain⟨ah,h1,h2⟩:=ad h
  obtain⟨af,h3,h4⟩:=ae h2
  exact⟨af,h1.trans h3,h4⟩
theorem bP.split {U J:Type} {R:U->J->Prop}: ∀{l l':List U} {m:List J},bP R (l++l') m-> ∃m1 m2,m=m1++m2/\bP R l m1/\bP R l' m2
 | [],l',m,h=>⟨[],m,rfl,tV,h⟩
 |a::l,l',[],h=>h.elim
 |a::l,l',b::m,h=>by
  obtain⟨m1,m2,rfl,h1,h2⟩:=bP.split h.2
  exact⟨b::m1,m2,rfl,⟨h.1,h1⟩,h2⟩
section
variable {P:Program} {c:Ctx} {w:World} {L:Nat->Nat} {I:St} {J:aiC}
theorem RF {s:Nat} {X:Type} {f:X->List V} {kx:X->Int×aiA} (hf: ∀x,∃rest,f x= .int .i64 (kx x).1:: .str (kx x).2::rest/\rest.length+2=s):
  ∀(xs:List X) (aa:aiC),bP (df w L I J) ((xs.map f).flatten) aa-> ∃ds:List (SE s),ds.flatMap SE.enc=aa/\bP (λx d=>bP (df w L I J) (f x) d.enc/\d.key=kx x) xs ds
 | [],aa,h=>by
  cases aa with
  |nil=>exact⟨[],rfl,tV⟩
  |cons _ _=>exact h.elim
 |x::xs,aa,h=>by
  rw[Ah,D0]at h
  obtain⟨m1,m2,rfl,h1,h2⟩:=bP.split h
  obtain⟨ds,h3,h4⟩:=RF hf xs m2 h2
  obtain⟨rest,hr,hl⟩:=hf x
  have ab:=h1
  rw[hr]at h1
  match m1,h1 with
  |v1::v2::vr,⟨a1,a2,a3⟩=>
   have e1:v1= .int .i64 (kx x).1:=yO (dz.dI a1)
   have e2:v2= .string ⟨(kx x).2.toArray⟩:=lk (dz.dI a2)
   subst e1 e2
   have hlen:=a3.length
   refine⟨⟨(kx x).1,(kx x).2,vr,om,λv hv=> ?_⟩::ds, ?_,⟨?_,rfl⟩,h4⟩
   .obtain⟨q,_,hq⟩:=a3.ng hv
    exact hq.dE
   .rw[Bw,h3];rfl
   .exact ab
  | [],h1=>exact h1.elim
  | [_],⟨_,h1⟩=>exact h1.elim
theorem ZY {W w':World} {L0 L':Nat->Nat} {I':St} {J':aiC} (h:Mem (entry W L0 [] []) w' L' I' J'): ∃q aa,w'=Sort.grow (W.drewN q) aa:=by
 refine⟨w'.drawn - W.drawn,w'.heap.extract W.heap.size w'.heap.size, ?_⟩
 have h1:w'.heap=W.heap++w'.heap.extract W.heap.size w'.heap.size:=by
  have hs:W.heap.size<=w'.heap.size:=h.size
  apply Array.ext
  .simp;omega
  .intro i hi ab
   by_cases q:i<W.heap.size
   .have:=(h.same i q (by simp[entry,uE])).1
    have e1:w'.heap[i]? =some w'.heap[i]:=B2 hi
    have e2:W.heap[i]? =some W.heap[i]:=B2 q
    rw[Array.getElem_append_left q]
    have this:w'.heap[i]? =W.heap[i]? :=this
    rw[e1,e2]at this
    exact aik this
   .rw[Array.getElem_append_right om]
    simp only[Array.getElem_extract]
    congr 1;omega
 have h2:w'.os=W.os:=h.os
 have h3:w'.tape=W.tape:=h.tape
 have h4:w'.output=W.output:=h.output
 have h5:W.drawn<=w'.drawn:=h.drawn
 obtain⟨hp,tp,dr,os,out⟩:=w'
 simp only at h1 h2 h3 h4 h5
 unfold Sort.grow World.drewN
 simp only
 rw[<-h1,<-h2,<-h3,<-h4,show W.drawn+(dr - W.drawn)=dr by omega]
theorem Mem.ahead (h:Mem c w L I J) (n:Nat):Mem c (Sort.ahead w n) L I J/\Le w L (Sort.ahead w n) L:=by
 have hle:Le w L (Sort.ahead w n) L:=⟨λ_=>A7 _,λ_ _ _=>rfl⟩
 refine⟨⟨h.len,λi o x hi hx=>(h.di i o x hi hx).step hle (Ext.refl _ _) λb hb=>⟨rfl,rfl⟩,h.apart,h.fY,h.same,h.le.trans hle,h.size,h.os,h.tape,h.output,Ax h.drawn (Nat.le_add_right _ _),h.lim,h.ext,h.jA⟩,hle⟩
theorem Mem.grow (h:Mem c w L I J) (os:Array Go.Obj):Mem c (Sort.grow w os) L I J/\Le w L (Sort.grow w os) L:=by
 have hb: ∀b,b<w.heap.size->(Sort.grow w os).heap[b]? =w.heap[b]? :=λb hb=>by
  show(w.heap++os)[b]? =_
  rw[Dk hb]
 have hle:Le w L (Sort.grow w os) L:=by
  refine⟨λ_=>A7 _,λb o ho=> ?_⟩
  have:b<w.heap.size:=by
   rcases Bv b w.heap.size with q|q
   .exact q
   .rw[h.lim b q]at ho;omega
  exact BH (hb b this) o
 refine⟨⟨h.len,λi o x hi hx=>(h.di i o x hi hx).step hle (Ext.refl _ _) λb ab=>⟨hb b ((h.di i o x hi hx).eO ab),rfl⟩,h.apart,h.fY,λb aa hx=> ?_,h.le.trans hle, ?_,h.os,h.tape,h.output,h.drawn,λb aa=> ?_,h.ext,h.jA⟩,hle⟩
 .have:=h.same b aa hx
  exact⟨(hb b (Df aa h.size)).trans this.1,this.2⟩
 .have:(Sort.grow w os).heap.size=w.heap.size+os.size:=by show(w.heap++os).size=_;simp
  rw[this];exact Ax h.size (Nat.le_add_right _ _)
 .have:(Sort.grow w os).heap.size=w.heap.size+os.size:=by show(w.heap++os).size=_;simp
  rw[this]at aa
  exact h.lim b om
theorem ZZ {b:Nat} {arr:aiE} {T:TypeId} {fz:Nat×Nat} (h:w.heap[b]? =some (.cells arr T fz)) (f:aiE->aiE):mapBlock w b f=yC w b (.cells (f arr) T fz):=by
 have hb:b<w.heap.size:=(Bq.1 h).1
 have hx:w.heap[b]'hb= .cells arr T fz:=by
  rw[B2 hb]at h
  exact aik h
 unfold mapBlock yC
 congr 1
 apply Array.ext
 .simp
 .intro i h1 h2
  rw[Array.getElem_modify,Array.getElem_setIfInBounds]
  .by_cases q:b=i
   .subst q
    rw[ai2 rfl,ai2 rfl,hx]
    rfl
   .rw[ai1 q,ai1 q]
theorem Z0 (F arr:aiE) (h:F.size<=arr.size):Go.Sort.putCells id 0 F arr=yD arr 0 F.toList:=by
 unfold Go.Sort.putCells
 apply Array.ext
 .simp[yJ]
 .intro i h1 h2
  have hi:i<arr.size:=sU h1
  have hs:=wO F.toList arr 0 i (sU h)
  rw[B2 h2]at hs
  by_cases q:i<F.size
  .rw[ai2 (sU q)]at hs
   simp only[Nat.sub_zero,Aq,B2 q,ai5]at hs
   rw[hs,Array.getElem_mapIdx]
   simp[q]
  .rw[ai1 (sU q),B2 hi,ai5]at hs
   rw[hs,Array.getElem_mapIdx]
   simp[q]
theorem RG {s:Nat} (hs:0<s) [Inhabited (SE s)] (d:Array (SE s)):(Go.Sort.flatK SE.enc s d).toList=d.toList.flatMap SE.enc:=by
 have hu: ∀r∈d.toList.map SE.enc,r.length=s:=λr hr=>by
  obtain⟨x,_,rfl⟩:=Ab.1 hr
  exact x.mB
 have aa:d.toList.flatMap SE.enc=(d.toList.map SE.enc).flatten:=List.flatMap_def ..
 have ab:(d.toList.map SE.enc).flatten.length=d.size*s:=by rw[yB hu];simp
 rw[aa]
 apply Bh
 intro t
 rw[Aq]
 by_cases ht:t<d.size*s
 .have h1:t<(Go.Sort.flatK SE.enc s d).size:=by rw[size_flatK];exact ht
  have h2:=get_flatK SE.enc s d t ht
  rw[air _ t h1]at h2
  rw[B2 h1,h2]
  have hq:t/s<d.size:=Nat.div_lt_of_lt_mul (by rw[Dr];exact ht)
  have hr:t%s<s:=Cs _ hs
  have h3:=yQ (rows:=d.toList.map SE.enc) (t/s) (t%s) hu hr
  rw[show t/s*s+t%s=t by rw[Dr];exact D2 t s]at h3
  rw[h3,B6,Aq,B2 hq,air d _ hq]
  simp only[Ba,Ay]
  have hl:t%s<(SE.enc d[t/s]).length:=by rw[SE.mB];exact hr
  rw[A0 hl,air (SE.enc d[t/s]) (t%s) hl]
 .rw[Array.getElem?_eq_none (by rw[size_flatK];omega),Di om]
theorem RH {s:Nat} {X:Type} {f:X->List V} {p:X->SE s->Prop}: ∀{xs:List X} {ds:List (SE s)},bP (λx d=>bP (df w L I J) (f x) d.enc/\p x d) xs ds->bP (df w L I J) (xs.map f).flatten (ds.flatMap SE.enc)
 | [],[],_=>trivial
 |x::xs,d::ds,h=>by
  rw[Ah,D0,Bw]
  exact bP.append h.1.1 (RH h.2)
 | [],_::_,h=>h.elim
 |_::_,[],h=>h.elim
theorem Z1 {ρ:Ren} (La:SlLaysF0.n6 P ρ) {s:Nat} (hs:2<=s) (aE: ∀w,(isAgg (ρ.t 24)).run P w= .ok true w) (zE: ∀w,(Go.sizeOf (ρ.t 24)).run P w= .ok s w) {gf:Nat} (Z2:xE P gf)
  {C:Int×aiA->Int×aiA->Int} (hO:SWO λa b=>decide (C a b<0))
  (hg: ∀x y:Int×aiA,Pure P gf [.agg (.int .i64 x.1:: .str x.2::List.replicate (s - 2) .u),.agg (.int .i64 y.1:: .str y.2::List.replicate (s - 2) .u)] (.int .i64 (C x y)))
  {X:Type} {f:X->List V} {kx:X->Int×aiA} (hf: ∀x,∃rest,f x= .int .i64 (kx x).1:: .str (kx x).2::rest/\rest.length+2=s) {id:Nat} {xs:List X}
  (hm:Mem c w L I J) (cJ:I[id]? =some (.cd (xs.map f) s)) (hlen:xs.length<4611686018427387904) {v:Value} (hv:dz w L I J (.cL id s xs.length 0 xs.length) v):
  Calls P (ρ.f 6) #[v,.func (.func gf) #[] #[]] w λe w'=>e= .returned (.tuple #[])/\ ∃qN,xs.Perm qN/\qN.Pairwise (λa b=> ¬C (kx b) (kx a)<0)/\
   Mem c w' L (I.set id (.cd (qN.map f) s)) J/\Le w L w' L/\Ext I J (I.set id (.cd (qN.map f) s)) J:=by
 haveI:=ZX hs
 obtain⟨a,cap,rfl,⟨hc1,_⟩,_,hv⟩:=hv
 rcases hv with hd|⟨rows,Hz,hn,hb⟩
 .rw[cJ]at hd;cases hd
 rw[cJ]at Hz
 obtain rfl:xs.map f=rows:=by cases Hz;rfl
 obtain⟨bb,c0,dh,dp,_,hblk⟩:=hb sm
 have HA:I.set id (.cd (xs.map f) s)=I:=yN I id _ cJ
 by_cases Z3:xs.length=0
 .obtain rfl:xs= []:=As Z3
  refine(AnyF.slices_SortFunc_none (P:=P) (ρ:=ρ) La a cap (.func (.func gf) #[] #[]) w).mono ?_
  rintro e w' ⟨rfl,rfl⟩
  exact⟨rfl,[],.refl _,List.Pairwise.nil,by rw[HA];exact hm,Le.refl _ _,by rw[HA];exact Ext.refl _ _⟩
 have HB:0<c0:=om
 obtain⟨k,rfl,rfl⟩:=hblk HB
 obtain⟨a',Z4,e,AI,hs0,hu,db⟩:=hm.di id _ _ cJ dh
 simp only[Ai]at e
 cases e
 obtain⟨b',arr,T,fz,e,hh,Z5,GY,hL,td⟩:=db HB
 cases e
 have Z6:k<w.heap.size:=(Bq.1 hh).1
 simp only[Ai]at AI td
 obtain⟨ds,Z7,HC⟩:=RF hf xs _ td
 have Z8:=HC.length
 have Z9:xs.length*s<=arr.size:=Ax (Aj s AI) GY
 have Nu:=RG om ds.toArray
 have mC:ds.toArray.size=xs.length:=by simp[Z8]
 have hH:HoldsK SE.enc s w k 0 ds.toArray:=by
  intro j hj
  rw[size_flatK,mC]at hj
  have h1:(Go.Sort.flatK SE.enc s ds.toArray).toList[j]? =arr[j]? :=by
   rw[Nu,Z7,Ap,ai2 hj,Aq]
  have Nv:j<arr.size:=om
  have RI:j<(Go.Sort.flatK SE.enc s ds.toArray).size:=by rw[size_flatK,mC];exact hj
  rw[Aq,B2 RI,B2 Nv,ai5]at h1
  refine⟨?_, ?_⟩
  .rw[air _ j RI,h1]
   simp[World.cell?,hh,Nv]
  .have:=Z5.1 j Nv
   simp[World.frozen?,hh]
   omega
 obtain⟨fn,Mk,sS,sV⟩:=Jb Z2
 have eg: ∀args w,(callFunc gf args).run P w= .ok (.enter gf args) w:=λargs w=>by
  have Ml: ¬fn.body=none:=by intro q;simp[q]at sV
  have GX: ¬fn.name= "runtime.NumGoroutine" :=sU sS
  simp[callFunc,Mk,GX,Ml]
 let cf:SE s->SE s->Int:=λx y=>C x.key y.key
 have hOc:SWO (ltOf cf):=⟨λx=>hO.irrefl _,λx y z=>hO.trans _ _ _,λx y z=>hO.ntrans _ _ _⟩
 have RJ: ∀(W:World) (x:SE s),dz W L [] [] (.agg (.int .i64 x.key.1:: .str x.key.2::List.replicate (s - 2) .u)) (.agg x.enc.toArray):=λW x=>by
  refine⟨x.enc,rfl,df.dv (.int _ _),df.dv (.str _), ?_⟩
  have hl:x.rest.length=s - 2:=by have:=x.len;omega
  rw[<-hl]
  have ho:=x.one
  generalize x.rest=r at ho
  induction r with
  |nil=>trivial
  |cons v r ih=>exact⟨ho v sm,ih λu hu=>ho u (by simp[hu])⟩
 have Nw:CmpLays P gf #[] SE.enc s cf k 0 ds.toArray.size w:=by
  intro m os dk _ x y
  generalize hW:sortWorldK SE.enc s w k 0 m dk os=W
  have HD: ∀b,b≠k->b<w.heap.size->W.heap[b]? =w.heap[b]? :=λb hb hbl=>by
   rw[<-hW]
   show((putRowK SE.enc s (Sort.ahead w m) k 0 dk).heap++os)[b]? =_
   have DO:(putRowK SE.enc s (Sort.ahead w m) k 0 dk).heap.size=w.heap.size:=by unfold putRowK;rw[Go.Sort.size_putRow];rfl
   rw[Dk (by rw[DO];exact hbl)]
   show(w.heap.modify k _)[b]? =_
   rw[Array.getElem?_modify,ai1 (λq=>hb q.symm)]
  have Nx:w.heap.size<=W.heap.size:=by
   rw[<-hW]
   show _<=((putRowK SE.enc s (Sort.ahead w m) k 0 dk).heap++os).size
   have DO:(putRowK SE.enc s (Sort.ahead w m) k 0 dk).heap.size=w.heap.size:=by unfold putRowK;rw[Go.Sort.size_putRow];rfl
   rw[Array.size_append,DO];omega
  have Ny:Le w L W L:=by
   refine⟨λ_=>A7 _,λb o ho=> ?_⟩
   have GX:b≠k:=λq=>by subst q;rw[hL]at ho;omega
   have:b<w.heap.size:=by
    rcases Bv b w.heap.size with q|q
    .exact q
    .rw[hm.lim b q]at ho;omega
   exact BH (HD b GX this) o
  have hmW:Mem (entry W L [] []) W L [] []:=
   ⟨rfl,λi o x ho _=>by simp at ho,λi j o o' x x' b _ ho _ _ _ _=>by simp at ho,λi o x b ho _ _=>by simp at ho,λb _ _=>⟨rfl,rfl⟩,Le.refl _ _,A7 _,rfl,rfl,rfl,A7 _,λb hb=>hm.lim b (Ax Nx hb),Ext.refl _ _,(hm.jA.mono hm.le).mono Ny⟩
  have nq:=hg x.key y.key W L [] [.agg x.enc.toArray,.agg y.enc.toArray] hmW ⟨RJ W x,RJ W y,tV⟩
  have e1:(#[.agg x.enc.toArray,.agg y.enc.toArray]++ #[]:aiE)= [Value.agg x.enc.toArray,Value.agg y.enc.toArray].toArray:=sm
  rw[e1]
  refine nq.mono ?_
  rintro e w' ⟨v,r,L',I',J',rfl,⟨rfl,rfl⟩,_,hm',BV⟩
  exact⟨by rw[yO BV],ZY hm'⟩
 rw[Cw,<-mC]
 refine(AnyQ.slices_SortFunc (P:=P) (ρ:=ρ) La s aE zE SE.enc (λx=>x.mB) (λx=>x.wx) cf hOc gf #[] k 0 cap ds.toArray w eg Nw hH Z6 (by rw[mC];exact hlen)).mono ?_
 rintro e w' ⟨rfl,d',nn,os,⟨tz,_,Ke⟩,wy,rfl⟩
 have aa4:d'.toList.length=xs.length:=by rw[Cq,tz,mC]
 have Ke:d'.toList.Perm ds:=by
  have e1:d'.extract 0 ds.toArray.size=d':=by rw[<-tz];simp
  have e2:ds.toArray.extract 0 ds.toArray.size=ds.toArray:=sm
  rw[e1,e2]at Ke
  exact Ke
 obtain⟨qN,RL,AJ⟩:=bP.DN Ke.symm HC
 have Nz:=RL.length_eq
 refine⟨rfl,qN,RL, ?_, ?_⟩
 .rw[Cu]
  intro i j hi hj hij
  have RM:i<d'.size:=by rw[tz,mC];omega
  have RN:j<d'.size:=by rw[tz,mC];omega
  have h1:=wy i j (A3 _) hij (by rw[mC];omega)
  rw[air d' i RM,air d' j RN]at h1
  have key: ∀(q:Nat) (hq:q<qN.length) (RO:q<d'.size),d'[q].key=kx qN[q]:=λq hq RO=>by
   obtain⟨b,hb,r⟩:=AJ.get q _ (A0 hq)
   rw[Aq,B2 RO,ai5]at hb
   rw[hb];exact r.2
  have h2:decide (C d'[j].key d'[i].key<0)=false:=h1
  rw[key i hi RM,key j hj RN]at h2
  exact aid h2
 .obtain⟨hm1,HE⟩:=hm.ahead nn
  have RP:eK s (qN.map f):=λr hr=>by
   obtain⟨x,_,rfl⟩:=Ab.1 hr
   obtain⟨rest,h1,h2⟩:=hf x
   rw[h1];simp;omega
  have NA:=yB hu
  have NB:=yB RP
  have hv2:bP (df (Sort.ahead w nn) L I J) (qN.map f).flatten (d'.toList.flatMap SE.enc):=(RH AJ).imp λ_ _=>df.mono HE (Ext.refl _ _)
  have NC:(qN.map f).flatten=putCells (xs.map f).flatten 0 (qN.map f).flatten:=by
   unfold putCells
   rw[aiu,C7,Bo (by rw[NA,Ad,NB];simp[Nz]),Az]
  obtain⟨ND,T2,fz2,h1,_,h3,h4,h5,h6⟩:=hm1.gm (off:=0) cJ dh HB hv2 (A3 _) RP NC (by simp[Nz]) (by simp only[Ai];omega)
  have RQ:w.heap[k]? =some (.cells ND T2 fz2):=h1
  rw[hh]at RQ
  cases RQ
  have NF:J.set id (.slice (some ⟨k,0,none⟩) (qN.map f).length c0)=J:=yN J id _ (by rw[dh];simp[Nz])
  rw[NF]at h4 h6
  have hfd:=RG om d'
  have HF:putRowK SE.enc s (Sort.ahead w nn) k 0 d'=yC (Sort.ahead w nn) k (.cells (yD arr 0 (d'.toList.flatMap SE.enc)) T fz):=by
   unfold putRowK Go.Sort.putRow
   rw[ZZ (w:=Sort.ahead w nn) hh,Z0 _ _ (by rw[size_flatK,tz,mC];exact Z9),hfd]
  obtain⟨h7,h8⟩:=h4.grow os
  unfold sortWorldK
  rw[HF]
  exact⟨h7,HE.trans (h5.trans h8),h6⟩
theorem RU {ρ:Ren} (La:SlLaysF0.n6 P ρ) {F:Nat} (hF:ρ.f 6=F) (ae:xE P F) {s:Nat} (hs:2<=s) (aE: ∀w,(isAgg (ρ.t 24)).run P w= .ok true w) (zE: ∀w,(Go.sizeOf (ρ.t 24)).run P w= .ok s w) {gf:Nat} (af:xE P gf)
  {C:Int×aiA->Int×aiA->Int} (hO:SWO λa b=>decide (C a b<0))
  (hg: ∀x y:Int×aiA,Pure P gf [.agg (.int .i64 x.1:: .str x.2::List.replicate (s - 2) .u),.agg (.int .i64 y.1:: .str y.2::List.replicate (s - 2) .u)] (.int .i64 (C x y)))
  {X:Type} {f:X->List V} {kx:X->Int×aiA} (hf: ∀x,∃rest,f x= .int .i64 (kx x).1:: .str (kx x).2::rest/\rest.length+2=s) {id:Nat} (xs:List X)
  (cJ:I[id]? =some (.cd (xs.map f) s)) (hlen:xs.length<4611686018427387904) {K:V->St->Prop}
  (hk: ∀aa,xs.Perm aa->aa.Pairwise (λa b=> ¬C (kx b) (kx a)<0)->K (.cz []) (I.set id (.cd (aa.map f) s))):
  jk P c (.fn F []) [.cL id s xs.length 0 xs.length,.fn gf []] I K fx:=by
 refine⟨F,[],rfl,.inl ⟨Jb ae,λw L J ab hm ha=> ?_⟩⟩
 match ab,ha with
 | [v1,v2],⟨h1,h2,_⟩=>
  obtain⟨ys,rfl,hy⟩:=h2
  cases ys with
  |cons _ _=>exact hy.elim
  |nil=>
   have:=Z1 (c:=c) La hs aE zE af hO hg hf hm cJ hlen h1
   rw[hF]at this
   refine this.mono ?_
   rintro e w' ⟨rfl,aa,hp,ah,ai,hle,ad⟩
   exact⟨.tuple #[],.cz [],L,_,J,rfl,hk aa hp ah,ai,hle,ad,[],rfl,tV⟩
end
end Go.Vx
namespace Go.Vx
open Go Go.Extern Go.Extern.Rtype Go.Lib Go.RowKit
section
variable {P:Program} {c:Ctx} {w:World} {L:Nat->Nat} {I:St} {J:aiC}
variable {F:FuncId}{e:TypeId}{K:V->St->Prop}{n:Nat}{k:Nat}{ie:TypeInfo}{i:TypeInfo}{t:TypeId}{m:Nat}
theorem yp9 {U:Type} {s:Nat} {rows:List (List U)} (hu: ∀r∈rows,r.length=s) (hk:k<rows.length):(rows.flatten.drop (k*s)).take s=rows[k]:=by
 have hr:=hu _ (A8 hk)
 have hlen:=yB hu
 have aa:(k+1)*s<=rows.length*s:=Aj _ hk
 rw[B3,D7]at aa
 refine Bh λj=> ?_
 by_cases q:j<s
 .rw[List.getElem?_take_of_lt q,C6,yQ k j hu q,A0 hk];rfl
 grind
theorem RV {rows:List (List V)} {s:Nat} {arr:aiE} (hu: ∀r∈rows,r.length=s) (ha:bP (df w L I J) rows.flatten (arr.toList.take (rows.length*s))) (hk:k<rows.length):
  bP (df w L I J) (rows[k]) ((arr.toList.drop (k*s)).take s):=by
 have aa:(k+1)*s<=rows.length*s:=Aj _ hk
 rw[B3,D7]at aa
 have h:=(bP.drop (k*s) ha).take s
 grind[yp9,List.drop_take]
theorem RW {vs:List V} {xs:aiC} (h:bP (df w L I J) vs xs): ∀x∈xs,x.oneCell'=true:=by
 intro x hx
 obtain⟨k,hk⟩:=Ar.1 hx
 have aa:k<vs.length:=by rw[h.length];grind
 obtain⟨z,hz,r⟩:=h.get k _ (A0 aa)
 rw[hk]at hz
 cases hz
 exact r.dE
theorem xR1 {gS:Bool} (hF: ∀args w,(callFunc F args).run P w=((ReflectliteSwapper.swap gS args).run P w).andThen λv w'=> .ok (.value v) w') (aj:P.info? e=some ie) (ah: ∀w,(isAgg e).run P w= .ok true w)
  {id i j:Nat} {rows:List (List V)} (cJ:I[id]? =some (.cd rows ie.size)) (hi:i<rows.length) (hj:j<rows.length)
  (hk:K (.cz []) (I.set id (.cd ((rows.set i (rows[j]'hj)).set j (rows[i]'hi)) ie.size))):jk P c (.fn F [.cL id ie.size rows.length 0 rows.length,.raw (typeHandle P e)]) [.int .i64 i,.int .i64 j] I K fx:=by
 refine⟨F,_,rfl,.inr λw L J an hm ha=> ?_⟩
 match an,ha with
 | [v1,v2,v3,v4],⟨h1,h2,h3,h4,_⟩=>
  have e1:v1= .int .i64 i:=by cases h1;rfl
  have e2:v2= .int .i64 j:=by cases h2;rfl
  have e4:v4=typeHandle P e:=by cases h4;rfl
  subst e1;subst e2;subst e4
  obtain⟨a,cap,rfl,⟨aQ,_⟩,_,hd|⟨cC,ao,_,hb⟩⟩:=h3
  .grind
  rw[cJ]at ao
  cases ao
  obtain⟨b,c0,dh,aR,_,hblk⟩:=hb rfl
  obtain⟨k,rfl,aq⟩:=hblk om
  rw[Cw]at aq
  subst aq
  obtain⟨a',aH,ex,dp,hs,hu,db⟩:=hm.di id _ _ cJ dh
  cases ex
  obtain⟨b',arr,T,fz,eb,hh,hf,aS,hL,ai⟩:=db om
  cases eb
  have hX:=RV hu ai hi
  have hY:=RV hu ai hj
  obtain⟨X,ax⟩:=eX ((arr.toList.drop (i*ie.size)).take ie.size)
  obtain⟨Y,ay⟩:=eX ((arr.toList.drop (j*ie.size)).take ie.size)
  rw[ax]at hX
  rw[ay]at hY
  have lX:X.length=ie.size:=by rw[<-hX.length];grind
  have lY:Y.length=ie.size:=by rw[<-hY.length];grind
  have oX:=RW hX
  have oY:=RW hY
  have az:(i+1)*ie.size<=rows.length*ie.size:=Aj _ hi
  have a1:(j+1)*ie.size<=rows.length*ie.size:=Aj _ hj
  have aT:rows.length*ie.size<=c0*ie.size:=Aj _ dp
  rw[B3,D7]at az a1
  have cX: ∀q v,X[q]? =some v->w.cell? ⟨k,i*ie.size+q,none⟩=some v:=(by grind[World.cell?])
  have cY: ∀q v,Y[q]? =some v->w.cell? ⟨k,j*ie.size+q,none⟩=some v:=(by grind[World.cell?])
  have l1:=rl_loadVar_cells (P:=P) e ie aj ah k (i*ie.size) X lX w cX
  have l2:=rl_loadVar_cells (P:=P) e ie aj ah k (j*ie.size) Y lY w cY
  have ae: ∀n:Nat,n=rows.length->J.set id (.slice (some ⟨k,0,none⟩) n c0)=J:=(by grind[yN])
  have aI: ∀(q:Nat) (hq:q<rows.length) (r:List V),r.length=ie.size->(rows.set q r).flatten=putCells rows.flatten (q*ie.size) r:=λq hq r hr=>by
   have h5:=IY (s:=ie.size) (vs:=r) (rows:=rows) q 0 hu hq om
   have e5:putCells (rows.getD q []) 0 r=r:=by
    simp_all[putCells]
   grind
  obtain⟨aJ,T1,aU,ar,a6,aK,ad,af,aa⟩:=hm.gm (cC:=rows.set i (rows[j]'hj)) (off:=i*ie.size) cJ dh om hY om (λr hr=>by
   grind) (by grind) sm (by grind)
  rw[ae _ sm]at ad aa
  rw[hh]at ar
  cases ar
  have st1:=xP P k (i*ie.size) T fz Y 0 arr w hh a6 om oY
  rw[D4]at st1
  obtain⟨w1,a7⟩:=eX (yC w k (.cells (yD arr (i*ie.size) Y) T fz))
  obtain⟨I1,a8⟩:=eX (I.set id (.cd (rows.set i (rows[j]'hj)) ie.size))
  rw[a7]at ad af st1
  rw[a8]at ad aa
  have aL:id<I.length:=(by grind)
  have au:I1[id]? =some (.cd (rows.set i (rows[j]'hj)) ie.size):=by grind
  have aA: ∀r∈rows.set i (rows[j]'hj),r.length=ie.size:=(by grind)
  have ak:((rows.set i (rows[j]'hj)).set j (rows[i]'hi)).flatten=putCells (rows.set i (rows[j]'hj)).flatten (j*ie.size) (rows[i]'hi):=by
   have hr:=hu _ (A8 hi)
   have h5:=IY (s:=ie.size) (vs:=rows[i]'hi) (rows:=rows.set i (rows[j]'hj)) j 0 aA (by grind) om
   have e5:putCells ((rows.set i (rows[j]'hj)).getD j []) 0 (rows[i]'hi)=rows[i]'hi:=by
    simp_all[putCells]
   grind
  have aB:bP (df w1 L I1 J) (rows[i]'hi) X:=hX.imp λ_ _ r=>r.mono af aa
  have aC: ∀n:Nat,n=rows.length->J.set id (.slice (some ⟨k,0,none⟩) n c0)=J:=ae
  obtain⟨av,T2,aD,aE,aF,aP,al,aw,ab⟩:=ad.gm (cC:=(rows.set i (rows[j]'hj)).set j (rows[i]'hi)) (off:=j*ie.size) (n:=rows.length) au dh om aB (by grind) (λr hr=>by
   grind) ak sm (by grind)
  rw[ae _ sm]at al ab
  have st2:=xP P k (j*ie.size) T2 aD X 0 av w1 aE aF om oX
  rw[D4]at st2
  have aG:I1.set id (.cd ((rows.set i (rows[j]'hj)).set j (rows[i]'hi)) ie.size)=I.set id (.cd ((rows.set i (rows[j]'hj)).set j (rows[i]'hi)) ie.size):=by grind[List.set_set]
  rw[aG]at al ab
  refine⟨.tuple #[],.cz [],_,L,_,J, ?_,hk,al,af.trans aw,aa.trans ab,⟨[],rfl,tV⟩⟩
  have i0: ¬((i:Int)<0):=om
  have i1: ¬((i:Int)≥(rows.length:Int)):=om
  have j0: ¬((j:Int)<0):=om
  have j1: ¬((j:Int)≥(rows.length:Int)):=om
  rw[hF]
  show((ReflectliteSwapper.swap gS #[.int .i64 i,.int .i64 j,.slice (some ⟨k,0,none⟩) rows.length cap,typeHandle P e]).run P w).andThen _=_
  rw[rl_swap]
  cases gS<;>simp[i0,i1,j0,j1,ofHandle,handleType,typeHandle,ReflectliteSwapper.exchange,sizeOf,rl_info e ie aj,Addr.add_lit,l1,l2,storeVar,Value.cells,lX,lY,st1,st2,Result.andThen]
theorem xA3 {gS:Bool} (hF: ∀args w,(callFunc F args).run P w=((ReflectliteSwapper.swap gS args).run P w).andThen λv w'=> .ok (.value v) w') (ab:P.info? e=some ie) (aa: ∀w,(isAgg e).run P w= .ok true w)
  {id i j s:Nat} {rows R:List (List V)} (hs:ie.size=s) (hn:rows.length=n) (cJ:I[id]? =some (.cd rows s)) (hi:i<n) (hj:j<n) (hR:R=(rows.set i (rows.getD j [])).set j (rows.getD i []))
  (hk:K (.cz []) (I.set id (.cd R s))):jk P c (.fn F [.cL id s n 0 n,.raw (typeHandle P e)]) [.int .i64 i,.int .i64 j] I K fx:=by
 subst hs
 subst hn
 refine xR1 hF ab aa cJ hi hj ?_
 grind
theorem yX5 (hF: ∀args w,(callFunc F args).run P w=((ReflectliteValue.unpack (args.getD 0 (.tuple #[]))).run P w).andThen λv w'=> .ok (.value v) w') (hi:P.info? t=some i) (hd:i.desc= .slice e)
  {id s:Nat} (hk:K (.agg [.raw (typeHandle P t),.ptr I.length 0,.int .u64 151]) (I++ [.box [.cL id s n 0 m]])):jk P c (.fn F []) [.gW t [.cL id s n 0 m]] I K fx:=by
 refine⟨F,[],rfl,.inr λw L J aa hm ha=> ?_⟩
 match aa,ha with
 | [v1],⟨h1,_⟩=>
  obtain⟨y,rfl,hy,_⟩:=h1
  have ab:gQ w L I J (.cL id s n 0 m) y:=hy
  obtain⟨a,cap,rfl,_⟩:=hy
  obtain⟨h2,h3⟩:=hm.box [.cL id s n 0 m] #[.slice a m cap] t (by trivial)
  refine⟨_,_,_,L,_,_, ?_,hk,h2,h3,Ext.push I J hm.len _ _,⟨[typeHandle P t,.pointer (some ⟨w.heap.size,0,none⟩),.int .u64 151],rfl, ?_,⟨w.heap.size, ?_,rfl⟩,cF.int _ _,tV⟩⟩
  .rw[hF]
   show((ReflectliteValue.unpack (.iface t (.slice a m cap))).run P w).andThen _=_
   rw[run_valueOf_slice t e i hi hd]
   rfl
  .exact cF.raw _ rfl
  .rw[<-hm.len,Au om];simp
theorem yX4 {G:FuncId} (hF: ∀args w,(callFunc F args).run P w=((ReflectliteSwapper.swapper "internal/reflectlite" (ReflectliteValue.valueError "Swapper") args).run P w).andThen λv w'=> .ok (.value v) w') (hi:P.info? t=some i) (hd:i.desc= .slice e) (NG:P.info? e=some ie)
  {ke:Nat} (hke: ∀w,(kind e).run P w= .ok ke w) {id s:Nat} (hG:P.funcs.findIdx? (·.name== "internal/reflectlite" ++ ".Swapper$" ++toString (swapperK m ie ke))=some G)
  (hk:K (.fn G (if swapperK m ie ke<=2 then []else [.cL id s n 0 m,.raw (typeHandle P e)])) I):jk P c (.fn F []) [.gW t [.cL id s n 0 m]] I K fx:=by
 refine⟨F,[],rfl,.inr λw L J j4 hm ha=> ?_⟩
 match j4,ha with
 | [v1],⟨h1,_⟩=>
  obtain⟨y,rfl,hy,_⟩:=h1
  have hy2:gQ w L I J (.cL id s n 0 m) y:=hy
  obtain⟨a,cap,rfl,_⟩:=hy
  refine⟨.func (.func G) #[] (if swapperK m ie ke<=2 then #[]else #[.slice a m cap,typeHandle P e]),_,w,L,I,J, ?_,hk,hm,Le.refl _ _,Ext.refl _ _, ?_⟩
  .rw[hF]
   show((ReflectliteSwapper.swapper _ _ #[.iface t (.slice a m cap)]).run P w).andThen _=_
   rw[run_swapper_slice t e i ie hi hd NG ke hke a m cap G hG]
   rfl
  .split
   .exact⟨[],rfl,tV⟩
   .exact⟨[.slice a m cap,typeHandle P e],rfl,hy2,cF.raw _ rfl,tV⟩
theorem yI7 (hF: ∀args w,(callFunc F args).run P w=((ReflectliteValue.method (ReflectliteValue.valueError "reflectlite.Value.Len" 0) ReflectliteValue.len args).run P w).andThen λv w'=> .ok (.value v) w') (hi:P.info? t=some i) (hd:i.desc= .slice e) (hpk:P.packed t=false)
  {id s:Nat} (cJ:I[k]? =some (.box [.cL id s n 0 m])) (hk:K (.int .i64 m) I):jk P c (.fn F []) [.agg [.raw (typeHandle P t),.ptr k 0,.int .u64 151]] I K fx:=by
 refine⟨F,[],rfl,.inr λw L J j4 hm ha=> ?_⟩
 match j4,ha with
 | [v1],⟨h1,_⟩=>
  obtain⟨xs,rfl,h2⟩:=h1
  match xs,h2 with
  | [x1,x2,x3],⟨g1,g2,g3,_⟩=>
   have e1:x1=typeHandle P t:=by cases g1;rfl
   have e3:x3= .int .u64 151:=by cases g3;rfl
   subst e1;subst e3
   obtain⟨b,dh,rfl⟩:=g2
   obtain⟨b',arr,T,fz,eb,hh,hf,hL,hc⟩:=hm.di k _ _ cJ dh
   cases eb
   obtain⟨z,hz,hr⟩:=hc.get 0 _ rfl
   obtain⟨a,cap,rfl,_⟩:=hr
   refine⟨_,_,w,L,I,J, ?_,hk,hm,Le.refl _ _,Ext.refl _ _,cF.int _ _⟩
   rw[hF]
   show((ReflectliteValue.method (ReflectliteValue.valueError "reflectlite.Value.Len" 0) ReflectliteValue.len #[.agg #[typeHandle P t,.pointer (some ⟨b,0,none⟩),.int .u64 151]]).run P w).andThen _=_
   rw[run_valueLen_slice t e i hi hd hpk ⟨b,0,none⟩ a m cap w (by grind[World.cell?])]
   rfl
end
end Go.Vx
