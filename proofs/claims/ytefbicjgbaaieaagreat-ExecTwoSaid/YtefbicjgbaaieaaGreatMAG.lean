/-
  internal/reflectlite's Swapper over trees: the function literal that it hands back changes two rows of a list of one's own (the kit's law of it, lifted).
  No condition: a library text; nothing of the program is named.
-/
import Derived.Test.YtefbicjgbaaieaaGreatMAF
import Derived.Shelf.SlSortCmp.NoneTotal
import Derived.Lib.ReflectliteSwap
import Derived.Lib.ReflectliteSlice
set_option maxHeartbeats 8000000
namespace Go.Vx
open Go Go.Shelf Go.Sort Go.Proofs
structure SE (s:Nat) where
 n:Int
 t:afE
 rest:afG
 len:rest.length+2=s
 one: ∀v∈rest,v.oneCell'=true
def SE.enc {s:Nat} (x:SE s):afG:= .int .i64 x.n:: .string ⟨x.t.toArray⟩::x.rest
def SE.key {s:Nat} (x:SE s):Int×afE:=(x.n,x.t)
@[instance_reducible] def XF {s:Nat} (h:2<=s):Inhabited (SE s):=⟨⟨0,[],List.replicate (s - 2) (.int .i64 0),by simp;omega,λv hv=>by
 rw[List.eq_of_mem_replicate hv];rfl⟩⟩
theorem SE.lH {s:Nat} (x:SE s):x.enc.length=s:=by simp[SE.enc,<-x.len]
theorem SE.uN {s:Nat} (x:SE s): ∀v∈x.enc,v.oneCell'=true:=λv hv=>by
 simp only[SE.enc,Ae]at hv
 rcases hv with rfl|rfl|hv
 .rfl
 .rfl
 .exact x.one v hv
theorem bL.BE {J I:Type} {R:J->I->Prop} {ds ab:List I} (hp:ds.Perm ab): ∀{xs:List J},bL R xs ds-> ∃aa,xs.Perm aa/\bL R aa ab:=by
 induction hp with
 |nil=>intro xs h;cases xs with
  |nil=>exact⟨[],.refl _,tV⟩
  |cons _ _=>exact h.elim
 |cons d _ ih=>
  intro xs h
  cases xs with
  |nil=>exact h.elim
  |cons x xs=>
   obtain⟨aa,h1,h2⟩:=ih h.2
   exact⟨x::aa,h1.cons x,h.1,h2⟩
 |swap a b l=>
  intro xs h
  match xs,h with
  |x::y::xs,h=>exact⟨y::x::xs,.swap y x xs,h.2.1,h.1,h.2.2⟩
  | [_],h=>exact h.2.elim
  | [],h=>exact h.elim
 |trans _ _ ad ae=>
  intro xs h
  obtain⟨ag,h1,h2⟩:=ad h
  obtain⟨af,h3,h4⟩:=ae h2
  exact⟨af,h1.trans h3,h4⟩
theorem bL.split {J I:Type} {R:J->I->Prop}: ∀{l l':List J} {m:List I},bL R (l++l') m-> ∃m1 m2,m=m1++m2/\bL R l m1/\bL R l' m2
 | [],l',m,h=>⟨[],m,rfl,tV,h⟩
 |a::l,l',[],h=>h.elim
 |a::l,l',b::m,h=>by
  obtain⟨m1,m2,rfl,h1,h2⟩:=bL.split h.2
  exact⟨b::m1,m2,rfl,⟨h.1,h1⟩,h2⟩
section
variable {P:Program} {c:Ctx} {w:World} {L:Nat->Nat} {U:St} {I:afG}
theorem Ql {s:Nat} {X:Type} {f:X->List V} {kx:X->Int×afE} (hf: ∀x,∃rest,f x= .int .i64 (kx x).1:: .str (kx x).2::rest/\rest.length+2=s):
  ∀(xs:List X) (aa:afG),bL (cN w L U I) ((xs.map f).flatten) aa-> ∃ds:List (SE s),ds.flatMap SE.enc=aa/\bL (λx d=>bL (cN w L U I) (f x) d.enc/\d.key=kx x) xs ds
 | [],aa,h=>by
  cases aa with
  |nil=>exact⟨[],rfl,tV⟩
  |cons _ _=>exact h.elim
 |x::xs,aa,h=>by
  rw[Ai,D7]at h
  obtain⟨m1,m2,rfl,h1,h2⟩:=bL.split h
  obtain⟨ds,h3,h4⟩:=Ql hf xs m2 h2
  obtain⟨rest,hr,hl⟩:=hf x
  have ab:=h1
  rw[hr]at h1
  match m1,h1 with
  |v1::v2::vr,⟨a1,a2,a3⟩=>
   have e1:v1= .int .i64 (kx x).1:=yI (cV.df a1)
   have e2:v2= .string ⟨(kx x).2.toArray⟩:=kI (cV.df a2)
   subst e1 e2
   have hlen:=a3.length
   refine⟨⟨(kx x).1,(kx x).2,vr,om,λv hv=> ?_⟩::ds, ?_,⟨?_,rfl⟩,h4⟩
   .obtain⟨q,_,hq⟩:=a3.mz hv
    exact hq.dj
   .rw[Ch,h3];rfl
   .exact ab
  | [],h1=>exact h1.elim
  | [_],⟨_,h1⟩=>exact h1.elim
theorem XG {W w':World} {L0 L':Nat->Nat} {U':St} {I':afG} (h:Mem (entry W L0 [] []) w' L' U' I'): ∃q aa,w'=Sort.grow (W.drewN q) aa:=by
 refine⟨w'.drawn - W.drawn,w'.heap.extract W.heap.size w'.heap.size, ?_⟩
 have h1:w'.heap=W.heap++w'.heap.extract W.heap.size w'.heap.size:=by
  have hs:W.heap.size<=w'.heap.size:=h.size
  apply Array.ext
  .simp;omega
  .intro i hi ab
   by_cases q:i<W.heap.size
   .have:=(h.same i q (by simp[entry,sT])).1
    have e1:w'.heap[i]? =some w'.heap[i]:=As hi
    have e2:W.heap[i]? =some W.heap[i]:=As q
    rw[Array.getElem_append_left q]
    have this:w'.heap[i]? =W.heap[i]? :=this
    rw[e1,e2]at this
    exact afp this
   .rw[Array.getElem_append_right om]
    simp only[Array.getElem_extract]
    congr 1;omega
 have h2:w'.os=W.os:=h.os
 have h3:w'.tape=W.tape:=h.tape
 have h4:w'.output=W.output:=h.output
 have h5:W.drawn<=w'.drawn:=h.drawn
 obtain⟨hp,tp,dr,os,out⟩:=w'
 simp only at h1 h2 h3 h4 h5
 unfold Sort.grow World.drewN
 simp only
 rw[<-h1,<-h2,<-h3,<-h4,show W.drawn+(dr - W.drawn)=dr by omega]
theorem Mem.ahead (h:Mem c w L U I) (n:Nat):Mem c (Sort.ahead w n) L U I/\Le w L (Sort.ahead w n) L:=by
 have hle:Le w L (Sort.ahead w n) L:=⟨λ_=>A3 _,λ_ _ _=>rfl⟩
 refine⟨⟨h.len,λi o x hi hx=>(h.cO i o x hi hx).step hle (Ext.refl _ _) λb hb=>⟨rfl,rfl⟩,h.apart,h.fy,h.same,h.le.trans hle,h.size,h.os,h.tape,h.output,An h.drawn (Nat.le_add_right _ _),h.lim,h.ext,h.iY⟩,hle⟩
theorem Mem.grow (h:Mem c w L U I) (os:Array Go.Obj):Mem c (Sort.grow w os) L U I/\Le w L (Sort.grow w os) L:=by
 have hb: ∀b,b<w.heap.size->(Sort.grow w os).heap[b]? =w.heap[b]? :=λb hb=>by
  show(w.heap++os)[b]? =_
  rw[Df hb]
 have hle:Le w L (Sort.grow w os) L:=by
  refine⟨λ_=>A3 _,λb o ho=> ?_⟩
  have:b<w.heap.size:=by
   rcases Bo b w.heap.size with q|q
   .exact q
   .rw[h.lim b q]at ho;omega
  exact za (hb b this) o
 refine⟨⟨h.len,λi o x hi hx=>(h.cO i o x hi hx).step hle (Ext.refl _ _) λb ab=>⟨hb b ((h.cO i o x hi hx).dY ab),rfl⟩,h.apart,h.fy,λb aa hx=> ?_,h.le.trans hle, ?_,h.os,h.tape,h.output,h.drawn,λb aa=> ?_,h.ext,h.iY⟩,hle⟩
 .have:=h.same b aa hx
  exact⟨(hb b (Db aa h.size)).trans this.1,this.2⟩
 .have:(Sort.grow w os).heap.size=w.heap.size+os.size:=by show(w.heap++os).size=_;simp
  rw[this];exact An h.size (Nat.le_add_right _ _)
 .have:(Sort.grow w os).heap.size=w.heap.size+os.size:=by show(w.heap++os).size=_;simp
  rw[this]at aa
  exact h.lim b om
theorem XH {b:Nat} {arr:afI} {T:TypeId} {fz:Nat×Nat} (h:w.heap[b]? =some (.cells arr T fz)) (f:afI->afI):mapBlock w b f=yK w b (.cells (f arr) T fz):=by
 have hb:b<w.heap.size:=(Cf.1 h).1
 have hx:w.heap[b]'hb= .cells arr T fz:=by
  rw[As hb]at h
  exact afp h
 unfold mapBlock yK
 congr 1
 apply Array.ext
 .simp
 .intro i h1 h2
  rw[Array.getElem_modify,Array.getElem_setIfInBounds]
  .by_cases q:b=i
   .subst q
    rw[afb rfl,afb rfl,hx]
    rfl
   .rw[afa q,afa q]
theorem XI (F arr:afI) (h:F.size<=arr.size):Go.Sort.putCells id 0 F arr=xI arr 0 F.toList:=by
 unfold Go.Sort.putCells
 apply Array.ext
 .simp[xJ]
 .intro i h1 h2
  have hi:i<arr.size:=sU h1
  have hs:=tS F.toList arr 0 i (sU h)
  rw[As h2]at hs
  by_cases q:i<F.size
  .rw[afb (sU q)]at hs
   simp only[Nat.sub_zero,Am,As q,afg]at hs
   rw[hs,Array.getElem_mapIdx]
   simp[q]
  .rw[afa (sU q),As hi,afg]at hs
   rw[hs,Array.getElem_mapIdx]
   simp[q]
theorem Qm {s:Nat} (hs:0<s) [Inhabited (SE s)] (d:Array (SE s)):(Go.Sort.flatK SE.enc s d).toList=d.toList.flatMap SE.enc:=by
 have hu: ∀r∈d.toList.map SE.enc,r.length=s:=λr hr=>by
  obtain⟨x,_,rfl⟩:=Ac.1 hr
  exact x.lH
 have aa:d.toList.flatMap SE.enc=(d.toList.map SE.enc).flatten:=List.flatMap_def ..
 have ab:(d.toList.map SE.enc).flatten.length=d.size*s:=by rw[yA hu];simp
 rw[aa]
 apply Bn
 intro t
 rw[Am]
 by_cases ht:t<d.size*s
 .have h1:t<(Go.Sort.flatK SE.enc s d).size:=by rw[size_flatK];exact ht
  have h2:=get_flatK SE.enc s d t ht
  rw[afA _ t h1]at h2
  rw[As h1,h2]
  have hq:t/s<d.size:=Nat.div_lt_of_lt_mul (by rw[Dl];exact ht)
  have hr:t%s<s:=Cj _ hs
  have h3:=yM (rows:=d.toList.map SE.enc) (t/s) (t%s) hu hr
  rw[show t/s*s+t%s=t by rw[Dl];exact Cq t s]at h3
  rw[h3,B3,Am,As hq,afA d _ hq]
  simp only[Ba,Ao]
  have hl:t%s<(SE.enc d[t/s]).length:=by rw[SE.lH];exact hr
  rw[A0 hl,afA (SE.enc d[t/s]) (t%s) hl]
 .rw[Array.getElem?_eq_none (by rw[size_flatK];omega),Dc om]
theorem Qn {s:Nat} {X:Type} {f:X->List V} {p:X->SE s->Prop}: ∀{xs:List X} {ds:List (SE s)},bL (λx d=>bL (cN w L U I) (f x) d.enc/\p x d) xs ds->bL (cN w L U I) (xs.map f).flatten (ds.flatMap SE.enc)
 | [],[],_=>trivial
 |x::xs,d::ds,h=>by
  rw[Ai,D7,Ch]
  exact bL.append h.1.1 (Qn h.2)
 | [],_::_,h=>h.elim
 |_::_,[],h=>h.elim
theorem XJ {ρ:Ren} (La:SlLaysF0.n6 P ρ) {s:Nat} (hs:2<=s) (aE: ∀w,(isAgg (ρ.t 24)).run P w= .ok true w) (zE: ∀w,(Go.sizeOf (ρ.t 24)).run P w= .ok s w) {gf:Nat} (XK:wE P gf)
  {C:Int×afE->Int×afE->Int} (hO:SWO λa b=>decide (C a b<0))
  (hg: ∀x y:Int×afE,Pure P gf [.agg (.int .i64 x.1:: .str x.2::List.replicate (s - 2) .u),.agg (.int .i64 y.1:: .str y.2::List.replicate (s - 2) .u)] (.int .i64 (C x y)))
  {X:Type} {f:X->List V} {kx:X->Int×afE} (hf: ∀x,∃rest,f x= .int .i64 (kx x).1:: .str (kx x).2::rest/\rest.length+2=s) {id:Nat} {xs:List X}
  (hm:Mem c w L U I) (cv:U[id]? =some (.cc (xs.map f) s)) (hlen:xs.length<4611686018427387904) {v:Value} (hv:cV w L U I (.cJ id s xs.length 0 xs.length) v):
  Calls P (ρ.f 6) #[v,.func (.func gf) #[] #[]] w λe w'=>e= .returned (.tuple #[])/\ ∃pH,xs.Perm pH/\pH.Pairwise (λa b=> ¬C (kx b) (kx a)<0)/\
   Mem c w' L (U.set id (.cc (pH.map f) s)) I/\Le w L w' L/\Ext U I (U.set id (.cc (pH.map f) s)) I:=by
 haveI:=XF hs
 obtain⟨a,cap,rfl,⟨hc1,_⟩,_,hv⟩:=hv
 rcases hv with hd|⟨rows,Ge,hn,hb⟩
 .rw[cv]at hd;cases hd
 rw[cv]at Ge
 obtain rfl:xs.map f=rows:=by cases Ge;rfl
 obtain⟨bb,c0,cR,cQ,_,hblk⟩:=hb sm
 have Gf:U.set id (.cc (xs.map f) s)=U:=yE U id _ cv
 by_cases XL:xs.length=0
 .obtain rfl:xs= []:=B5 XL
  refine(AnyF.slices_SortFunc_none (P:=P) (ρ:=ρ) La a cap (.func (.func gf) #[] #[]) w).mono ?_
  rintro e w' ⟨rfl,rfl⟩
  exact⟨rfl,[],.refl _,List.Pairwise.nil,by rw[Gf];exact hm,Le.refl _ _,by rw[Gf];exact Ext.refl _ _⟩
 have Gg:0<c0:=om
 obtain⟨k,rfl,rfl⟩:=hblk Gg
 obtain⟨a',XM,e,x9,hs0,hu,cH⟩:=hm.cO id _ _ cv cR
 simp only[Bb]at e
 cases e
 obtain⟨b',arr,T,fz,e,hh,XN,FD,hL,rJ⟩:=cH Gg
 cases e
 have XO:k<w.heap.size:=(Cf.1 hh).1
 simp only[Bb]at x9 rJ
 obtain⟨ds,XP,Gh⟩:=Ql hf xs _ rJ
 have XQ:=Gh.length
 have XR:xs.length*s<=arr.size:=An (Af s x9) FD
 have LV:=Qm om ds.toArray
 have lI:ds.toArray.size=xs.length:=by simp[XQ]
 have hH:HoldsK SE.enc s w k 0 ds.toArray:=by
  intro j hj
  rw[size_flatK,lI]at hj
  have h1:(Go.Sort.flatK SE.enc s ds.toArray).toList[j]? =arr[j]? :=by
   rw[LV,XP,Av,afb hj,Am]
  have LW:j<arr.size:=om
  have Qo:j<(Go.Sort.flatK SE.enc s ds.toArray).size:=by rw[size_flatK,lI];exact hj
  rw[Am,As Qo,As LW,afg]at h1
  refine⟨?_, ?_⟩
  .rw[afA _ j Qo,h1]
   simp[World.cell?,hh,LW]
  .have:=XN.1 j LW
   simp[World.frozen?,hh]
   omega
 obtain⟨fn,KL,ri,rj⟩:=HM XK
 have eg: ∀args w,(callFunc gf args).run P w= .ok (.enter gf args) w:=λargs w=>by
  have KM: ¬fn.body=none:=by intro q;simp[q]at rj
  have FC: ¬fn.name= "runtime.NumGoroutine" :=sU ri
  simp[callFunc,KL,FC,KM]
 let cf:SE s->SE s->Int:=λx y=>C x.key y.key
 have XS:SWO (ltOf cf):=⟨λx=>hO.irrefl _,λx y z=>hO.trans _ _ _,λx y z=>hO.ntrans _ _ _⟩
 have Qp: ∀(W:World) (x:SE s),cV W L [] [] (.agg (.int .i64 x.key.1:: .str x.key.2::List.replicate (s - 2) .u)) (.agg x.enc.toArray):=λW x=>by
  refine⟨x.enc,rfl,cN.cS (.int _ _),cN.cS (.str _), ?_⟩
  have hl:x.rest.length=s - 2:=by have:=x.len;omega
  rw[<-hl]
  have ho:=x.one
  generalize x.rest=r at ho
  induction r with
  |nil=>trivial
  |cons v r ih=>exact⟨ho v sm,ih λu hu=>ho u (by simp[hu])⟩
 have LX:CmpLays P gf #[] SE.enc s cf k 0 ds.toArray.size w:=by
  intro m os dk _ x y
  generalize hW:sortWorldK SE.enc s w k 0 m dk os=W
  have Gi: ∀b,b≠k->b<w.heap.size->W.heap[b]? =w.heap[b]? :=λb hb XT=>by
   rw[<-hW]
   show((putRowK SE.enc s (Sort.ahead w m) k 0 dk).heap++os)[b]? =_
   have BF:(putRowK SE.enc s (Sort.ahead w m) k 0 dk).heap.size=w.heap.size:=by unfold putRowK;rw[Go.Sort.size_putRow];rfl
   rw[Df (by rw[BF];exact XT)]
   show(w.heap.modify k _)[b]? =_
   rw[Array.getElem?_modify,afa (λq=>hb q.symm)]
  have LY:w.heap.size<=W.heap.size:=by
   rw[<-hW]
   show _<=((putRowK SE.enc s (Sort.ahead w m) k 0 dk).heap++os).size
   have BF:(putRowK SE.enc s (Sort.ahead w m) k 0 dk).heap.size=w.heap.size:=by unfold putRowK;rw[Go.Sort.size_putRow];rfl
   rw[Array.size_append,BF];omega
  have LZ:Le w L W L:=by
   refine⟨λ_=>A3 _,λb o ho=> ?_⟩
   have FC:b≠k:=λq=>by subst q;rw[hL]at ho;omega
   have:b<w.heap.size:=by
    rcases Bo b w.heap.size with q|q
    .exact q
    .rw[hm.lim b q]at ho;omega
   exact za (Gi b FC this) o
  have XU:Mem (entry W L [] []) W L [] []:=
   ⟨rfl,λi o x ho _=>by simp at ho,λi j o o' x x' b _ ho _ _ _ _=>by simp at ho,λi o x b ho _ _=>by simp at ho,λb _ _=>⟨rfl,rfl⟩,Le.refl _ _,A3 _,rfl,rfl,rfl,A3 _,λb hb=>hm.lim b (An LY hb),Ext.refl _ _,(hm.iY.mono hm.le).mono LZ⟩
  have mC:=hg x.key y.key W L [] [.agg x.enc.toArray,.agg y.enc.toArray] XU ⟨Qp W x,Qp W y,tV⟩
  have e1:(#[.agg x.enc.toArray,.agg y.enc.toArray]++ #[]:afI)= [Value.agg x.enc.toArray,Value.agg y.enc.toArray].toArray:=sm
  rw[e1]
  refine mC.mono ?_
  rintro e w' ⟨v,r,L',U',I',rfl,⟨rfl,rfl⟩,_,XV,zm⟩
  exact⟨by rw[yI zm],XG XV⟩
 rw[Cu,<-lI]
 refine(AnyQ.slices_SortFunc (P:=P) (ρ:=ρ) La s aE zE SE.enc (λx=>x.lH) (λx=>x.uN) cf XS gf #[] k 0 cap ds.toArray w eg LX hH XO (by rw[lI];exact hlen)).mono ?_
 rintro e w' ⟨rfl,d',nn,os,⟨rR,_,IM⟩,uO,rfl⟩
 have XW:d'.toList.length=xs.length:=by rw[Ci,rR,lI]
 have IM:d'.toList.Perm ds:=by
  have e1:d'.extract 0 ds.toArray.size=d':=by rw[<-rR];simp
  have e2:ds.toArray.extract 0 ds.toArray.size=ds.toArray:=sm
  rw[e1,e2]at IM
  exact IM
 obtain⟨pH,Qq,ya⟩:=bL.BE IM.symm Gh
 have L4:=Qq.length_eq
 refine⟨rfl,pH,Qq, ?_, ?_⟩
 .rw[List.pairwise_iff_getElem]
  intro i j hi hj XX
  have Qr:i<d'.size:=by rw[rR,lI];omega
  have Qs:j<d'.size:=by rw[rR,lI];omega
  have h1:=uO i j (A5 _) XX (by rw[lI];omega)
  rw[afA d' i Qr,afA d' j Qs]at h1
  have key: ∀(q:Nat) (hq:q<pH.length) (Qt:q<d'.size),d'[q].key=kx pH[q]:=λq hq Qt=>by
   obtain⟨b,hb,r⟩:=ya.get q _ (A0 hq)
   rw[Am,As Qt,afg]at hb
   rw[hb];exact r.2
  have h2:decide (C d'[j].key d'[i].key<0)=false:=h1
  rw[key i hi Qr,key j hj Qs]at h2
  exact afq h2
 .obtain⟨XY,Gj⟩:=hm.ahead nn
  have Qu:eS s (pH.map f):=λr hr=>by
   obtain⟨x,_,rfl⟩:=Ac.1 hr
   obtain⟨rest,h1,h2⟩:=hf x
   rw[h1];simp;omega
  have L5:=yA hu
  have L6:=yA Qu
  have XZ:bL (cN (Sort.ahead w nn) L U I) (pH.map f).flatten (d'.toList.flatMap SE.enc):=(Qn ya).imp λ_ _=>cN.mono Gj (Ext.refl _ _)
  have L7:(pH.map f).flatten=putCells (xs.map f).flatten 0 (pH.map f).flatten:=by
   unfold putCells
   rw[Cy,Bp,C8 (by rw[L5,A7,L6];simp[L4]),B6]
  obtain⟨L8,T2,X1,h1,_,h3,h4,h5,h6⟩:=XY.gk (off:=0) cv cR Gg XZ (A5 _) Qu L7 (by simp[L4]) (by simp only[Bb];omega)
  have Qv:w.heap[k]? =some (.cells L8 T2 X1):=h1
  rw[hh]at Qv
  cases Qv
  have L9:I.set id (.slice (some ⟨k,0,none⟩) (pH.map f).length c0)=I:=yE I id _ (by rw[cR];simp[L4])
  rw[L9]at h4 h6
  have X2:=Qm om d'
  have Gk:putRowK SE.enc s (Sort.ahead w nn) k 0 d'=yK (Sort.ahead w nn) k (.cells (xI arr 0 (d'.toList.flatMap SE.enc)) T fz):=by
   unfold putRowK Go.Sort.putRow
   rw[XH (w:=Sort.ahead w nn) hh,XI _ _ (by rw[size_flatK,rR,lI];exact XR),X2]
  obtain⟨h7,h8⟩:=h4.grow os
  unfold sortWorldK
  rw[Gk]
  exact⟨h7,Gj.trans (h5.trans h8),h6⟩
theorem Qw {ρ:Ren} (La:SlLaysF0.n6 P ρ) {F:Nat} (hF:ρ.f 6=F) (ae:wE P F) {s:Nat} (hs:2<=s) (aE: ∀w,(isAgg (ρ.t 24)).run P w= .ok true w) (zE: ∀w,(Go.sizeOf (ρ.t 24)).run P w= .ok s w) {gf:Nat} (af:wE P gf)
  {C:Int×afE->Int×afE->Int} (hO:SWO λa b=>decide (C a b<0))
  (hg: ∀x y:Int×afE,Pure P gf [.agg (.int .i64 x.1:: .str x.2::List.replicate (s - 2) .u),.agg (.int .i64 y.1:: .str y.2::List.replicate (s - 2) .u)] (.int .i64 (C x y)))
  {X:Type} {f:X->List V} {kx:X->Int×afE} (hf: ∀x,∃rest,f x= .int .i64 (kx x).1:: .str (kx x).2::rest/\rest.length+2=s) {id:Nat} (xs:List X)
  (cv:U[id]? =some (.cc (xs.map f) s)) (hlen:xs.length<4611686018427387904) {K:V->St->Prop}
  (hk: ∀aa,xs.Perm aa->aa.Pairwise (λa b=> ¬C (kx b) (kx a)<0)->K (.cm []) (U.set id (.cc (aa.map f) s))):
  iZ P c (.fn F []) [.cJ id s xs.length 0 xs.length,.fn gf []] U K fx:=by
 refine⟨F,[],rfl,.inl ⟨HM ae,λw L I ab hm ha=> ?_⟩⟩
 match ab,ha with
 | [v1,v2],⟨h1,h2,_⟩=>
  obtain⟨ys,rfl,hy⟩:=h2
  cases ys with
  |cons _ _=>exact hy.elim
  |nil=>
   have:=XJ (c:=c) La hs aE zE af hO hg hf hm cv hlen h1
   rw[hF]at this
   refine this.mono ?_
   rintro e w' ⟨rfl,aa,hp,ag,ah,hle,ad⟩
   exact⟨.tuple #[],.cm [],L,_,I,rfl,hk aa hp ag,ah,hle,ad,[],rfl,tV⟩
end
end Go.Vx
namespace Go.Vx
open Go Go.Extern Go.Extern.Rtype Go.Lib Go.RowKit
section
variable {P:Program} {c:Ctx} {w:World} {L:Nat->Nat} {U:St} {I:afG}
variable {F:FuncId}{e:TypeId}{K:V->St->Prop}{n:Nat}{k:Nat}{ie:TypeInfo}{i:TypeInfo}{t:TypeId}{m:Nat}
theorem X3 {J:Type} {s:Nat} {rows:List (List J)} (hu: ∀r∈rows,r.length=s) (hk:k<rows.length):(rows.flatten.drop (k*s)).take s=rows[k]:=by
 have hr:=hu _ (Aa hk)
 have hlen:=yA hu
 have aa:(k+1)*s<=rows.length*s:=Af _ hk
 rw[B0,D0]at aa
 refine Bn λj=> ?_
 by_cases q:j<s
 .rw[List.getElem?_take_of_lt q,Bw,yM k j hu q,A0 hk];rfl
 grind
theorem Qx {rows:List (List V)} {s:Nat} {arr:afI} (hu: ∀r∈rows,r.length=s) (ha:bL (cN w L U I) rows.flatten (arr.toList.take (rows.length*s))) (hk:k<rows.length):
  bL (cN w L U I) (rows[k]) ((arr.toList.drop (k*s)).take s):=by
 have aa:(k+1)*s<=rows.length*s:=Af _ hk
 rw[B0,D0]at aa
 have h:=(bL.drop (k*s) ha).take s
 grind[X3,List.drop_take]
theorem Qy {vs:List V} {xs:afG} (h:bL (cN w L U I) vs xs): ∀x∈xs,x.oneCell'=true:=by
 intro x hx
 obtain⟨k,hk⟩:=Au.1 hx
 have aa:k<vs.length:=by rw[h.length];grind
 obtain⟨z,hz,r⟩:=h.get k _ (A0 aa)
 rw[hk]at hz
 cases hz
 exact r.dj
theorem X4 {gS:Bool} (hF: ∀args w,(callFunc F args).run P w=((ReflectliteSwapper.swap gS args).run P w).andThen λv w'=> .ok (.value v) w') (ai:P.info? e=some ie) (ag: ∀w,(isAgg e).run P w= .ok true w)
  {id i j:Nat} {rows:List (List V)} (cv:U[id]? =some (.cc rows ie.size)) (hi:i<rows.length) (hj:j<rows.length)
  (hk:K (.cm []) (U.set id (.cc ((rows.set i (rows[j]'hj)).set j (rows[i]'hi)) ie.size))):iZ P c (.fn F [.cJ id ie.size rows.length 0 rows.length,.raw (typeHandle P e)]) [.int .i64 i,.int .i64 j] U K fx:=by
 refine⟨F,_,rfl,.inr λw L I al hm ha=> ?_⟩
 match al,ha with
 | [v1,v2,v3,v4],⟨h1,h2,h3,h4,_⟩=>
  have e1:v1= .int .i64 i:=by cases h1;rfl
  have e2:v2= .int .i64 j:=by cases h2;rfl
  have e4:v4=typeHandle P e:=by cases h4;rfl
  subst e1;subst e2;subst e4
  obtain⟨a,cap,rfl,⟨aP,_⟩,_,hd|⟨cp,an,_,hb⟩⟩:=h3
  .grind
  rw[cv]at an
  cases an
  obtain⟨b,c0,cR,aQ,_,hblk⟩:=hb rfl
  obtain⟨k,rfl,ao⟩:=hblk om
  rw[Cu]at ao
  subst ao
  obtain⟨a',aG,ex,cQ,hs,hu,cH⟩:=hm.cO id _ _ cv cR
  cases ex
  obtain⟨b',arr,T,fz,eb,hh,hf,aR,hL,ah⟩:=cH om
  cases eb
  have hX:=Qx hu ah hi
  have hY:=Qx hu ah hj
  obtain⟨X,aw⟩:=eX ((arr.toList.drop (i*ie.size)).take ie.size)
  obtain⟨Y,ax⟩:=eX ((arr.toList.drop (j*ie.size)).take ie.size)
  rw[aw]at hX
  rw[ax]at hY
  have lX:X.length=ie.size:=by rw[<-hX.length];grind
  have lY:Y.length=ie.size:=by rw[<-hY.length];grind
  have oX:=Qy hX
  have oY:=Qy hY
  have ay:(i+1)*ie.size<=rows.length*ie.size:=Af _ hi
  have az:(j+1)*ie.size<=rows.length*ie.size:=Af _ hj
  have aS:rows.length*ie.size<=c0*ie.size:=Af _ cQ
  rw[B0,D0]at ay az
  have cX: ∀q v,X[q]? =some v->w.cell? ⟨k,i*ie.size+q,none⟩=some v:=(by grind[World.cell?])
  have cY: ∀q v,Y[q]? =some v->w.cell? ⟨k,j*ie.size+q,none⟩=some v:=(by grind[World.cell?])
  have l1:=rl_loadVar_cells (P:=P) e ie ai ag k (i*ie.size) X lX w cX
  have l2:=rl_loadVar_cells (P:=P) e ie ai ag k (j*ie.size) Y lY w cY
  have ae: ∀n:Nat,n=rows.length->I.set id (.slice (some ⟨k,0,none⟩) n c0)=I:=(by grind[yE])
  have aH: ∀(q:Nat) (hq:q<rows.length) (r:List V),r.length=ie.size->(rows.set q r).flatten=putCells rows.flatten (q*ie.size) r:=λq hq r hr=>by
   have h5:=HD (s:=ie.size) (vs:=r) (rows:=rows) q 0 hu hq om
   have e5:putCells (rows.getD q []) 0 r=r:=by
    simp_all[putCells]
   grind
  obtain⟨aI,T1,aT,aq,a1,aJ,ad,af,aa⟩:=hm.gk (cp:=rows.set i (rows[j]'hj)) (off:=i*ie.size) cv cR om hY om (λr hr=>by
   grind) (by grind) sm (by grind)
  rw[ae _ sm]at ad aa
  rw[hh]at aq
  cases aq
  have st1:=wB P k (i*ie.size) T fz Y 0 arr w hh a1 om oY
  rw[D2]at st1
  obtain⟨w1,a6⟩:=eX (yK w k (.cells (xI arr (i*ie.size) Y) T fz))
  obtain⟨U1,a7⟩:=eX (U.set id (.cc (rows.set i (rows[j]'hj)) ie.size))
  rw[a6]at ad af st1
  rw[a7]at ad aa
  have aK:id<U.length:=(by grind)
  have ar:U1[id]? =some (.cc (rows.set i (rows[j]'hj)) ie.size):=by grind
  have a8: ∀r∈rows.set i (rows[j]'hj),r.length=ie.size:=(by grind)
  have aj:((rows.set i (rows[j]'hj)).set j (rows[i]'hi)).flatten=putCells (rows.set i (rows[j]'hj)).flatten (j*ie.size) (rows[i]'hi):=by
   have hr:=hu _ (Aa hi)
   have h5:=HD (s:=ie.size) (vs:=rows[i]'hi) (rows:=rows.set i (rows[j]'hj)) j 0 a8 (by grind) om
   have e5:putCells ((rows.set i (rows[j]'hj)).getD j []) 0 (rows[i]'hi)=rows[i]'hi:=by
    simp_all[putCells]
   grind
  have aA:bL (cN w1 L U1 I) (rows[i]'hi) X:=hX.imp λ_ _ r=>r.mono af aa
  have aB: ∀n:Nat,n=rows.length->I.set id (.slice (some ⟨k,0,none⟩) n c0)=I:=ae
  obtain⟨au,T2,aC,aD,aE,aL,ak,av,ab⟩:=ad.gk (cp:=(rows.set i (rows[j]'hj)).set j (rows[i]'hi)) (off:=j*ie.size) (n:=rows.length) ar cR om aA (by grind) (λr hr=>by
   grind) aj sm (by grind)
  rw[ae _ sm]at ak ab
  have st2:=wB P k (j*ie.size) T2 aC X 0 au w1 aD aE om oX
  rw[D2]at st2
  have aF:U1.set id (.cc ((rows.set i (rows[j]'hj)).set j (rows[i]'hi)) ie.size)=U.set id (.cc ((rows.set i (rows[j]'hj)).set j (rows[i]'hi)) ie.size):=by grind[List.set_set]
  rw[aF]at ak ab
  refine⟨.tuple #[],.cm [],_,L,_,I, ?_,hk,ak,af.trans av,aa.trans ab,⟨[],rfl,tV⟩⟩
  have i0: ¬((i:Int)<0):=om
  have i1: ¬((i:Int)≥(rows.length:Int)):=om
  have j0: ¬((j:Int)<0):=om
  have j1: ¬((j:Int)≥(rows.length:Int)):=om
  rw[hF]
  show((ReflectliteSwapper.swap gS #[.int .i64 i,.int .i64 j,.slice (some ⟨k,0,none⟩) rows.length cap,typeHandle P e]).run P w).andThen _=_
  rw[rl_swap]
  cases gS<;>simp[i0,i1,j0,j1,ofHandle,handleType,typeHandle,ReflectliteSwapper.exchange,sizeOf,rl_info e ie ai,Addr.add_lit,l1,l2,storeVar,Value.cells,lX,lY,st1,st2,Result.andThen]
theorem X5 {gS:Bool} (hF: ∀args w,(callFunc F args).run P w=((ReflectliteSwapper.swap gS args).run P w).andThen λv w'=> .ok (.value v) w') (ab:P.info? e=some ie) (aa: ∀w,(isAgg e).run P w= .ok true w)
  {id i j s:Nat} {rows R:List (List V)} (hs:ie.size=s) (hn:rows.length=n) (cv:U[id]? =some (.cc rows s)) (hi:i<n) (hj:j<n) (hR:R=(rows.set i (rows.getD j [])).set j (rows.getD i []))
  (hk:K (.cm []) (U.set id (.cc R s))):iZ P c (.fn F [.cJ id s n 0 n,.raw (typeHandle P e)]) [.int .i64 i,.int .i64 j] U K fx:=by
 subst hs
 subst hn
 refine X4 hF ab aa cv hi hj ?_
 grind
theorem X6 (hF: ∀args w,(callFunc F args).run P w=((ReflectliteValue.unpack (args.getD 0 (.tuple #[]))).run P w).andThen λv w'=> .ok (.value v) w') (hi:P.info? t=some i) (hd:i.desc= .slice e)
  {id s:Nat} (hk:K (.agg [.raw (typeHandle P t),.ptr U.length 0,.int .u64 151]) (U++ [.box [.cJ id s n 0 m]])):iZ P c (.fn F []) [.gy t [.cJ id s n 0 m]] U K fx:=by
 refine⟨F,[],rfl,.inr λw L I aa hm ha=> ?_⟩
 match aa,ha with
 | [v1],⟨h1,_⟩=>
  obtain⟨y,rfl,hy,_⟩:=h1
  have ab:gj w L U I (.cJ id s n 0 m) y:=hy
  obtain⟨a,cap,rfl,_⟩:=hy
  obtain⟨h2,h3⟩:=hm.box [.cJ id s n 0 m] #[.slice a m cap] t (by trivial)
  refine⟨_,_,_,L,_,_, ?_,hk,h2,h3,Ext.push U I hm.len _ _,⟨[typeHandle P t,.pointer (some ⟨w.heap.size,0,none⟩),.int .u64 151],rfl, ?_,⟨w.heap.size, ?_,rfl⟩,cq.int _ _,tV⟩⟩
  .rw[hF]
   show((ReflectliteValue.unpack (.iface t (.slice a m cap))).run P w).andThen _=_
   rw[run_valueOf_slice t e i hi hd]
   rfl
  .exact cq.raw _ rfl
  .rw[<-hm.len,Ay om];simp
theorem X7 {G:FuncId} (hF: ∀args w,(callFunc F args).run P w=((ReflectliteSwapper.swapper "internal/reflectlite" (ReflectliteValue.valueError "Swapper") args).run P w).andThen λv w'=> .ok (.value v) w') (hi:P.info? t=some i) (hd:i.desc= .slice e) (Ma:P.info? e=some ie)
  {ke:Nat} (X8: ∀w,(kind e).run P w= .ok ke w) {id s:Nat} (hG:P.funcs.findIdx? (·.name== "internal/reflectlite" ++ ".Swapper$" ++toString (swapperK m ie ke))=some G)
  (hk:K (.fn G (if swapperK m ie ke<=2 then []else [.cJ id s n 0 m,.raw (typeHandle P e)])) U):iZ P c (.fn F []) [.gy t [.cJ id s n 0 m]] U K fx:=by
 refine⟨F,[],rfl,.inr λw L I jE hm ha=> ?_⟩
 match jE,ha with
 | [v1],⟨h1,_⟩=>
  obtain⟨y,rfl,hy,_⟩:=h1
  have X9:gj w L U I (.cJ id s n 0 m) y:=hy
  obtain⟨a,cap,rfl,_⟩:=hy
  refine⟨.func (.func G) #[] (if swapperK m ie ke<=2 then #[]else #[.slice a m cap,typeHandle P e]),_,w,L,U,I, ?_,hk,hm,Le.refl _ _,Ext.refl _ _, ?_⟩
  .rw[hF]
   show((ReflectliteSwapper.swapper _ _ #[.iface t (.slice a m cap)]).run P w).andThen _=_
   rw[run_swapper_slice t e i ie hi hd Ma ke X8 a m cap G hG]
   rfl
  .split
   .exact⟨[],rfl,tV⟩
   .exact⟨[.slice a m cap,typeHandle P e],rfl,X9,cq.raw _ rfl,tV⟩
theorem Ya (hF: ∀args w,(callFunc F args).run P w=((ReflectliteValue.method (ReflectliteValue.valueError "reflectlite.Value.Len" 0) ReflectliteValue.len args).run P w).andThen λv w'=> .ok (.value v) w') (hi:P.info? t=some i) (hd:i.desc= .slice e) (Yb:P.packed t=false)
  {id s:Nat} (cv:U[k]? =some (.box [.cJ id s n 0 m])) (hk:K (.int .i64 m) U):iZ P c (.fn F []) [.agg [.raw (typeHandle P t),.ptr k 0,.int .u64 151]] U K fx:=by
 refine⟨F,[],rfl,.inr λw L I jE hm ha=> ?_⟩
 match jE,ha with
 | [v1],⟨h1,_⟩=>
  obtain⟨xs,rfl,h2⟩:=h1
  match xs,h2 with
  | [x1,x2,x3],⟨g1,g2,g3,_⟩=>
   have e1:x1=typeHandle P t:=by cases g1;rfl
   have e3:x3= .int .u64 151:=by cases g3;rfl
   subst e1;subst e3
   obtain⟨b,cR,rfl⟩:=g2
   obtain⟨b',arr,T,fz,eb,hh,hf,hL,hc⟩:=hm.cO k _ _ cv cR
   cases eb
   obtain⟨z,hz,hr⟩:=hc.get 0 _ rfl
   obtain⟨a,cap,rfl,_⟩:=hr
   refine⟨_,_,w,L,U,I, ?_,hk,hm,Le.refl _ _,Ext.refl _ _,cq.int _ _⟩
   rw[hF]
   show((ReflectliteValue.method (ReflectliteValue.valueError "reflectlite.Value.Len" 0) ReflectliteValue.len #[.agg #[typeHandle P t,.pointer (some ⟨b,0,none⟩),.int .u64 151]]).run P w).andThen _=_
   rw[run_valueLen_slice t e i hi hd Yb ⟨b,0,none⟩ a m cap w (by grind[World.cell?])]
   rfl
end
end Go.Vx
