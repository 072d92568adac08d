/-
  Which lots may be, in the program, over trees (the library Vx); used by the theorem at the end of the claim.
  Conditions: as each theorem states them.
-/
import Derived.Test.YtefbicjgbaaieaaGreatPAL
import Derived.Test.YtefbicjgbaaieaaGreatPAQ
import Derived.Test.YtefbicjgbaaieaaGreatPAP
import Derived.Test.YtefbicjgbaaieaaGreatPAG
import Derived.Test.YtefbicjgbaaieaaGreatPAH
import Derived.Lib.Overlaps
import Derived.Lib.AppendZerosOnto
import Derived.Laws.Externs
import Derived.Laws.IdiomCopy
import Derived.Deep.RegionLaw
set_option maxHeartbeats 8000000
namespace Go.Proofs.YtefbicjgbaaieaaGreat
open Go Go.Vx Go.Proofs.Tryz
set_option maxRecDepth 100000
theorem ye2 (c:UInt8):Pure prog 268 [.int .u8 c.toNat] (.bool (wJ c)):=by
 unfold wJ
 generalize c.toNat=n
 generalize hM:decide (48<=n/\n<=57)=M
 have ret: ∀(r:Bool) (σ:St),r=M->wret (some (.bool r)) 0 (fun r s=>r= .bool M/\s= []) σ:=fun r σ h=>by subst h;exact wR
 refine iW 0 func268 ntmps268 results268 fun c hc hb=>zJ ?_
 simp[go_sem]
 refine yW (fun q=> ?_) (fun q=> ?_)
 .simp[go_sem,q]
  refine ret _ _ ?_
  rw[<-hM]
  simp at q
  exact decide_eq_decide.2 om
 .simp[go_sem,q]
  refine ret _ _ ?_
  rw[<-hM]
  simp at q
  exact(decide_eq_false om).symm
theorem yP3: ∀n:Fin 256,za6 (UInt8.ofNat n.1)=(((decide (97<=ze6 .or .u8 (n.1:Nat) 32)&&decide (ze6 .or .u8 (n.1:Nat) 32<=122))&&decide (65<=((n.1:Nat):Int)))||(((n.1:Nat):Int)==95)):=by decide+kernel
theorem yF5 (c:UInt8):Pure prog 338 [.int .u8 c.toNat] (.bool (za6 c)):=by
 have h:=yP3 ⟨c.toNat,c.toNat_lt⟩
 simp only[UInt8.ofNat_toNat]at h
 rw[h]
 clear h
 obtain⟨n,hn⟩:=eX c.toNat
 simp only[hn]
 generalize hg:ze6 .or .u8 (n:Nat) 32=g
 refine iW 0 func338 ntmps338 results338 fun c hc hb=>zJ ?_
 simp[go_sem,hg]
 refine(Ab (decide (97<=g))).elim (fun q1=> ?_) (fun q1=> ?_)
 .refine(Ab (decide (g<=122))).elim (fun q2=> ?_) (fun q2=> ?_)
  .refine(Ab (decide (65<=(n:Int)))).elim (fun q3=> ?_) (fun q3=> ?_)
   .rw[q1,q2,q3]
    simp[go_sem,hg,q2,q3]
    exact wR
   .rw[q1,q2,q3]
    simp[go_sem,hg,q2,q3]
    exact wR
  .rw[q1,q2]
   simp[go_sem,hg,q2]
   exact wR
 .rw[q1]
  simp[go_sem]
  exact wR
def zo5 (c:UInt8):Bool:=za6 c||wJ c
theorem yP5 (c:UInt8):Pure prog 270 [.int .u8 c.toNat] (.bool (zo5 c)):=by
 have h1:=yF5 c
 have h2:=ye2 c
 unfold zo5
 generalize za6 c=a at h1⊢
 generalize wJ c=b at h2⊢
 refine iW 0 func270 ntmps270 results270 fun c hc hb=>zJ ?_
 simp[go_sem]
 refine pC h1 ?_
 simp[go_sem]
 refine(Ab a).elim (fun q=> ?_) (fun q=> ?_)
 .simp[go_sem,q]
  exact wW (zC rfl) ⟨sm,rfl⟩
 .simp[go_sem,q]
  refine pC h2 ?_
  simp[go_sem]
  exact wW (zC rfl) ⟨by simp[q],rfl⟩
def runF (p:UInt8->Bool):List UInt8->Nat
 | []=>0
 |c::l=>if p c=true then runF p l+1 else 0
theorem xu3 (s:List UInt8) (hl:s.length<=maxLen):Pure prog 269 [.str s,.fn 270 []] (.int .i64 (runF zo5 s:Nat)):=by
 generalize hM:runF zo5 s=M
 have ret: ∀(r:Nat) (σ:St),r=M->wret (some (.int .i64 r)) 0 (fun r s=>r= .int .i64 (M:Nat)/\s= []) σ:=fun r σ h=>by subst h;exact wR
 refine iV 0 func269 ntmps269 results269 fun c hc hb=> ?_
 refine zA ?_
 simp[go_sem]
 refine zI (S:=Nat) [0,1,5] (fun i=> [.str s,.fn 270 [],.int .i64 i]) (fun _=> []) (fun i=>s.length - i) (fun i=>i<=s.length/\i+runF zo5 (s.drop i)=M) hc hb 0 ⟨A7 _,by rw[Bh,Af,hM]⟩ ?_ ?_
 .exact aO
 rintro i ⟨hi,hinv⟩
 by_cases q:i<s.length
 rotate_left
 .rw[By om,runF,Ch]at hinv
  refine zA ?_
  simp[go_sem,q]
  exact ret _ _ hinv
 have ei:=zS q (by unfold maxLen at hl;omega)
 obtain⟨x,hx⟩:=eX (s[i])
 rw[Aa q,hx,runF]at hinv
 have aa:=yP5 x
 obtain⟨b,ab⟩:=eX (zo5 x)
 rw[ab]at aa hinv
 refine zA ?_
 simp[go_sem,q,hx]
 refine pC aa ?_
 simp[go_sem]
 refine(Ab b).elim (fun w=> ?_) (fun w=> ?_)
 .rw[if_pos w]at hinv
  simp[go_sem,w,ei]
  exact zH (i+1) ⟨om,⟨q,om⟩,aO⟩
 .rw[if_neg (by rw[w];decide)]at hinv
  simp[go_sem,w]
  exact ret _ _ om
theorem yJ3 (p:UInt8->Bool): ∀s:List UInt8,decide (runF p s<s.length)= !(s.all p)
 | []=>by simp[runF]
 |c::l=>by
  have h:=yJ3 p l
  unfold runF
  by_cases q:p c=true
  .rw[if_pos q,Am,q,Be,<-h]
   exact decide_eq_decide.2 sm
  .rw[if_neg q]
   have q:p c=false:=by simpa using q
   simp[q]
def spW:List UInt8->List (List UInt8)
 | []=> []
 |c::l=>if c=32/\32∈l then l.takeWhile (· !=32)::spW l else spW l
theorem xw8: ∀(s l:List UInt8),(∀c∈s,c≠32)->((s++ [32]).isPrefixOf l=true↔l.takeWhile (· !=32)=s/\32∈l)
 | [],[],_=>by simp
 | [],c::l,_=>by
  by_cases h:c=32
  .subst h;simp
  .have h':(c !=32)=true:=by simpa using h
   have h2: ¬(32=c):=fun e=>h e.symm
   simp[List.isPrefixOf,h',h2]
 |a::s,[],_=>by simp
 |a::s,c::l,hs=>by
  have ih:=xw8 s l fun x hx=>hs x (by simp[hx])
  have ha:a≠32:=hs a sm
  rw[Bu,List.isPrefixOf,A8,ih]
  by_cases h:c=32
  .subst h
   rw[List.takeWhile_cons_of_neg sm]
   constructor
   .rintro⟨h1,_⟩;exact absurd (by simpa using h1) ha
   .rintro⟨h1,_⟩;cases h1
  .have h':(c !=32)=true:=by simpa using h
   rw[Dt (by simpa using h),Ak]
   constructor
   .rintro⟨h1,h2,h3⟩
    have h1:a=c:=by simpa using h1
    exact⟨by rw[h1,h2],.inr h3⟩
   .rintro⟨h1,h2⟩
    obtain⟨h3,h4⟩:=List.cons.inj h1
    exact⟨by simp[h3],h4,h2.resolve_left fun e=>h e.symm⟩
theorem yE6 (s:List UInt8) (hs: ∀c∈s,c≠32): ∀T:List UInt8,0<=Lib.index T (32::(s++ [32]))↔s∈spW T
 | []=>by simp[Lib.index,spW]
 |b::l=>by
  have ih:=yE6 s hs l
  have hg:=Lib.index_ge l (32::(s++ [32]))
  have hp:=xw8 s l hs
  unfold Lib.index spW
  by_cases h:(32::(s++ [32])).isPrefixOf (b::l)=true
  .rw[if_pos h]
   rw[List.isPrefixOf,A8,hp]at h
   have hb:b=32:=(eq_of_beq h.1).symm
   rw[if_pos ⟨hb,h.2.2⟩,h.2.1]
   exact⟨fun _=>B8,fun _=>Int.le_refl 0⟩
  .rw[if_neg h]
   rw[List.isPrefixOf,A8,hp]at h
   have aa:s∈(if b=32/\32∈l then l.takeWhile (· !=32)::spW l else spW l)↔s∈spW l:=by
    split
    .rename_i hc
     rw[Ak]
     constructor
     .rintro(e|e)
      .exact absurd ⟨by rw[hc.1];exact beq_self_eq_true _,e.symm,hc.2⟩ h
      .exact e
     .exact .inr
    .exact Iff.rfl
   rw[aa,<-ih]
   split
   .rename_i e
    rw[eq_of_beq e]
   .rename_i e
    have e: ¬Lib.index l (32::(s++ [32]))= -1:=fun q=>e (by rw[q];rfl)
    omega
def yI7:List UInt8:= [32,65,76,76,32,65,78,68,32,65,83,32,65,83,67,32,66,69,84,87,69,69,78,32,66,79,85,78,68,32,66,89,32,67,79,85,78,84,32,68,69,76,69,84,69,32,68,69,83,67,32,69,88,65,67,84,32,70,65,76,83,69,32,70,82,79,77,32,73,78,83,69,82,84,32,73,78,84,79,32,73,83,32,76,73,77,73,84,32,78,79,84,32,78,85,76,76,32,78,79,87,32,79,70,32,79,82,32,79,82,68,69,82,32,83,69,76,69,67,84,32,83,69,84,32,83,85,77,32,83,89,83,84,69,77,32,84,73,77,69,32,84,82,85,69,32,85,80,68,65,84,69,32,86,65,76,85,69,83,32,87,72,69,82,69,32]
theorem yI8:spW yI7=resv:=by decide+kernel
theorem xx7 (s:List UInt8) (hs: ∀c∈s,c≠32):Lib.contains yI7 (32::(s++ [32]))=resv.contains s:=by
 have h:=yE6 s hs yI7
 rw[yI8]at h
 unfold Lib.contains
 rw[Dn,decide_eq_true_eq,h]
 simp
theorem yi8 (s sub:List UInt8) (hs:s.length<4294967281):Pure prog 272 [.str s,.str sub] (.bool (Lib.contains s sub)):=by
 intro w L β aa hm ha
 match aa,ha with
 | [a,b],⟨h1,h2,_⟩=>
  have e1:=wM h1
  have e2:=wM h2
  subst e1 e2
  obtain⟨_,m,hc⟩:=hm.tab.num (vints.headD (0,.i64)) dc
  refine(Tryz.strings_Contains _ _ m w (by rw[zl7];exact hs) hc).mono ?_
  rintro e w' ⟨rfl,rfl⟩
  exact⟨_,.bool _,L,[],β,rfl,⟨rfl,rfl⟩,A6 _,hm,RdP.bool _⟩
def upI:List UInt8->Nat->List UInt8
 | [],_=> []
 |c::l,0=>c::l
 |c::l,i+1=>yC c::upI l i
theorem xc7: ∀(s:List UInt8) (i:Nat),(upI s i).length=s.length
 | [],_=>rfl
 |_::_,0=>rfl
 |c::l,i+1=>by rw[upI,Al,xc7 l i,Al]
theorem xA0: ∀s:List UInt8,upI s 0=s
 | []=>rfl
 |_::_=>rfl
theorem xc5: ∀s:List UInt8,upI s s.length=s.map yC
 | []=>rfl
 |c::l=>by rw[Al,upI,xc5 l,As]
theorem xc6: ∀(s:List UInt8) (i:Nat),(upI s i)[i]? =s[i]?
 | [],_=>rfl
 |_::_,0=>rfl
 |c::l,i+1=>by rw[upI,Ct,Ct,xc6 l i]
theorem xc8: ∀(s:List UInt8) (i:Nat) (h:i<s.length),(upI s i).set i (yC s[i])=upI s (i+1)
 | [],_,h=>absurd h (Bj _)
 |c::l,0,_=>by rw[upI,upI,xA0];rfl
 |c::l,i+1,h=>by
  rw[upI,C9,List.getElem_cons_succ,xc8 l i (by simpa using h),upI]
theorem yL4: ∀(s:List UInt8) (i:Nat) (h:i<s.length),yC s[i]=s[i]->upI s i=upI s (i+1)
 | [],_,h,_=>absurd h (Bj _)
 |c::l,0,_,hg=>by rw[upI,upI,xA0];rw[List.getElem_cons_zero]at hg;rw[hg]
 |c::l,i+1,h,hg=>by
  rw[upI,upI,yL4 l i (by simpa using h) (by simpa using hg)]
abbrev bRw:UInt8->List V:=fun c=> [V.int .u8 c.toNat]
theorem zV5 (s:List UInt8):zN s=s.map bRw:=rfl
theorem xP6 (l:List UInt8) (n:Nat):ltOb n (.lst (l.map bRw) 1)=true:=by
 simp only[ltOb,Aj]
 intro r hr
 obtain⟨x,_,rfl⟩:=Ag.1 hr
 intro y hy
 cases hy with
 |head=>rfl
 |tail _ h=>cases h
theorem ys8 (l:List UInt8):([Ob.lst (l.map bRw) 1]:St).all (ltOb 1)=true:=by
 simp only[Am,xP6,Cp,Bool.and_self]
theorem xn2 (l:List UInt8):xW (l.map bRw)=true:=by
 simp only[xW,Aj]
 intro r hr
 obtain⟨x,_,rfl⟩:=Ag.1 hr
 intro y hy
 cases hy with
 |head=>rfl
 |tail _ h=>cases h
theorem xd9 (l:List UInt8) (n:Nat) (h:l.length=n):zb0 (l.map bRw) 0 n=l.map bRw:=by
 unfold zb0
 rw[Bh,Az (by simp;omega),Bw]
 rfl
theorem yP4 (s:List UInt8) (hl:s.length<=maxLen):Pure prog 271 [.str s] (.str (s.map yC)):=by
 obtain⟨n,hn⟩:=eX s.length
 unfold maxLen at hl
 refine iV 0 func271 ntmps271 results271 fun c hc hb=> ?_
 refine zx0 7 dc ?_
 refine zA ?_
 simp[go_sem,zV5,hn]
 refine zI (S:=Nat) [3,8,9,10] (fun i=> [.lsv 0 1 n 0 n,.lsv 0 1 n 0 n,.int .i64 n,.int .i64 i]) (fun i=> [.lst ((upI s i).map bRw) 1]) (fun i=>n - i) (fun i=>i<=n) hc hb 0 (A7 _) ?_ ?_
 .exact at_n 1 (by simp[go_sem,xA0]) rfl (ys8 _) (A7 _) (zF sg rfl)
 intro i hi
 by_cases q:i<n
 rotate_left
 .have ak:i=n:=om
  subst ak
  rw[<-hn,xc5,hn]
  have ag:=xd9 (s.map yC) i (by rw[Aw,hn])
  have ae:=zj6 (s.map yC)
  have af:=wT (s.map yC)
  rw[zV5]at ae af
  generalize hS:s.map yC=S at ag ae af⊢
  have al:S.length=i:=by rw[<-hS,Aw,hn]
  clear hS
  refine zq3 0 1 (S.map bRw) rfl (xn2 _) ?_
  refine zA ?_
  simp[go_sem,al,ag]
  refine zG af ?_
  simp[go_sem]
  rw[<-Bw,ae]
  exact wR
 have hq:i<s.length:=om
 have ei:=zS q om
 obtain⟨x,hx⟩:=eX (s[i])
 obtain⟨cur,aa⟩: ∃c,upI s i=c:=⟨_,rfl⟩
 obtain⟨ah,ab⟩: ∃c,upI s (i+1)=c:=⟨_,rfl⟩
 have ai:cur.length=n:=by rw[<-aa,xc7,hn]
 have an:i<cur.length:=om
 have ao:cur[i]=x:=by
  have h:=xc6 s i
  rw[aa,A4 an,A4 hq,hx]at h
  exact Option.some.inj h
 have aj:cur.set i (yC x)=ah:=by rw[<-aa,<-hx,xc8 s i hq,ab]
 have ad:yC x=x->cur=ah:=fun h=>by rw[<-aa,<-ab];exact yL4 s i hq (by rw[hx];exact h)
 rw[aa]
 have ar:0<=((x.toNat:Nat):Int)/\((x.toNat:Nat):Int)<=255:=by have:=x.toNat_lt;omega
 refine zA ?_
 simp[go_sem,q,ao,ai]
 have small: ¬(97<=x.toNat/\x.toNat<=122)->yC x=x:=fun h=>by unfold yC;rw[if_neg h]
 refine yW (fun q1=> ?_) (fun q1=> ?_)
 .simp[go_sem,q1]
  refine zR (fun q2=> ?_) (fun q2=> ?_)
  .have q1:97<=x.toNat:=by simp at q1;omega
   have q2:x.toNat<=122:=by simp at q2;omega
   have hg:IntKind.u8.wrap ((x.toNat:Int) - 32)=((yC x).toNat:Int):=by
    rw[yz1 om om]
    unfold yC
    rw[if_pos ⟨q1,q2⟩,Ej]
    omega
   simp[go_sem,hg,q,ai,ei]
   exact zH (i+1) ⟨om,om,at_n 1 (by rw[ab,<-aj];simp[go_sem,List.map_set]) rfl (ys8 _) (A7 _) (zF sg rfl)⟩
  .have q2: ¬x.toNat<=122:=by simp at q2;omega
   have hs:=ad (small fun h=>q2 h.2)
   simp[go_sem,ei]
   exact zH (i+1) ⟨om,om,at_n 1 (by rw[ab,<-hs];simp[go_sem]) rfl (ys8 _) (A7 _) (zF sg rfl)⟩
 .have q1: ¬97<=x.toNat:=by simp at q1;omega
  have hs:=ad (small fun h=>q1 h.1)
  have aq:decide ((97:Int)<=x.toNat)=false:=by simp;omega
  simp[go_sem,ei,aq]
  exact zH (i+1) ⟨om,om,at_n 1 (by rw[ab,<-hs];simp[go_sem]) rfl (ys8 _) (A7 _) (zF sg rfl)⟩
theorem xf3 (s:List UInt8):(s.map yC==s)=s.all fun c=>yC c==c:=by
 induction s with
 |nil=>rfl
 |cons c l ih=>
  rw[As,Am,<-ih]
  rfl
theorem xB6 (s:List UInt8):zl1 s=(decide (1<=s.length/\s.length<=16)&&(!wJ (s.headD 0)&&(s.all zo5&&(s.all (fun c=>yC c==c)&& !resv.contains s)))):=by
 have h:s.all okC=(s.all zo5&&s.all (fun c=>yC c==c)):=by
  induction s with
  |nil=>rfl
  |cons c l ih=>
   rw[Am,Am,Am,ih]
   unfold okC zo5
   cases za6 c<;>cases wJ c<;>cases (yC c==c)<;>simp
 unfold zl1
 rw[h,Bool.and_assoc]
theorem xB7:zo5 32=false:=dc
theorem zK1 (s:List UInt8) (hl:s.length<=maxLen):Pure prog 211 [.str s] (.bool (zl1 s)):=by
 have ad:=xu3 s hl
 have aa:=yJ3 zo5 s
 have ag:=yP4 s hl
 have ab:=xf3 s
 have ah:=ye2 (s[0]?.getD 0)
 have ai:s.headD 0=s[0]?.getD 0:=by cases s<;>rfl
 have ae:(s.all zo5)=true->Pure prog 272 [.str yI7,.str (32::(s++ [32]))] (.bool (resv.contains s)):=fun h=>by
  have h1: ∀c∈s,c≠32:=fun c hc e=>by
   rw[Aj]at h
   have:=h c hc
   rw[e,xB7]at this
   cases this
  have h2:=yi8 yI7 (32::(s++ [32])) dc
  rw[xx7 s h1]at h2
  exact h2
 generalize hM:zl1 s=M
 rw[xB6,ai]at hM
 generalize runF zo5 s=r at ad aa
 generalize s.map yC=u at ag ab
 generalize wJ (s[0]?.getD 0)=d at ah hM
 generalize (s.all fun c=>yC c==c)=g at ab hM
 generalize resv.contains s=k at ae hM
 generalize s.all zo5=w at aa ae hM
 have ret: ∀(b:Bool) (σ:St),b=M->wret (some (.bool b)) 0 (fun r s=>r= .bool M/\s= []) σ:=fun r σ h=>by subst h;exact wR
 unfold maxLen at hl
 refine iV 0 func211 ntmps211 results211 fun c hc hb=> ?_
 refine zA ?_
 simp[go_sem]
 by_cases h0:s= []
 .subst h0
  have hM:M=false:=by rw[<-hM];rfl
  simp[go_sem]
  exact ret _ _ hM.symm
 have h1:1<=s.length:=by
  cases s with
  |nil=>exact absurd rfl h0
  |cons _ _=>simp
 have aj:s.isEmpty=false:=by
  cases s with
  |nil=>exact absurd rfl h0
  |cons _ _=>rfl
 simp[go_sem,aj]
 by_cases h2:16<s.length
 .have af:decide ((16:Int)<s.length)=true:=by simp;omega
  have hM:M=false:=by rw[<-hM,decide_eq_false om];rfl
  simp[go_sem,af]
  exact ret _ _ hM.symm
 have af:decide ((16:Int)<s.length)=false:=by simp;omega
 rw[decide_eq_true (show 1<=s.length/\s.length<=16 by omega),Be]at hM
 simp[go_sem,af]
 refine zG om ?_
 simp[go_sem]
 refine pC ah ?_
 simp[go_sem]
 refine(Ab d).elim (fun q=> ?_) (fun q=> ?_)
 .have hM:M=false:=by rw[<-hM,q];rfl
  simp[go_sem,q]
  exact ret _ _ hM.symm
 rw[q,Bool.not_false,Be]at hM
 simp[go_sem,q]
 refine pC ad ?_
 simp[go_sem]
 refine(Ab w).elim (fun q2=> ?_) (fun q2=> ?_)
 rotate_left
 .have hM:M=false:=by rw[<-hM,q2];rfl
  have hr:decide (r<s.length)=true:=by rw[aa,q2];rfl
  simp[go_sem,hr]
  exact ret _ _ hM.symm
 have hr:decide (r<s.length)=false:=by rw[aa,q2];rfl
 rw[q2,Be]at hM
 simp[go_sem,hr]
 refine pC ag ?_
 simp[go_sem]
 refine(Ab g).elim (fun q3=> ?_) (fun q3=> ?_)
 rotate_left
 .have hM:M=false:=by rw[<-hM,q3];rfl
  have hu:(u==s)=false:=by rw[ab,q3]
  simp[go_sem,hu]
  exact ret _ _ hM.symm
 have hu:(u==s)=true:=by rw[ab,q3]
 rw[q3,Be]at hM
 simp[go_sem,hu]
 refine zG om ?_
 simp[go_sem]
 refine zG om ?_
 simp[go_sem]
 refine pC (ae q2) ?_
 simp[go_sem]
 exact ret _ _ hM
end Go.Proofs.YtefbicjgbaaieaaGreat
namespace Go.Proofs.YtefbicjgbaaieaaGreat
open Go Go.Vx R Go.Proofs.Tryz
set_option maxRecDepth 100000
def zI2 (s:List UInt8):Int:=if zF0 s=0 then -1 else zF0 s
theorem yT3 (s:List UInt8):Pure prog 273 [.str s] (.int .i64 (zI2 s)):=by
 have hM:zI2 s=if opsOne.contains s=true then 1 else if opsTwo.contains s=true then 2 else -1:=by
  unfold zI2 zF0
  by_cases h1:opsTwo.contains s=true
  .have h2:opsOne.contains s=false:=by
    unfold opsTwo at h1
    simp only[E4,List.contains_nil,Bool.or_false,Bn,beq_iff_eq]at h1
    rcases h1 with rfl|rfl|rfl|rfl|rfl|rfl|rfl|rfl|rfl|rfl|rfl|rfl|rfl<;>decide
   simp only[h1,h2]
   rfl
  .have h1:opsTwo.contains s=false:=by simpa using h1
   by_cases h2:opsOne.contains s=true
   .simp only[h1,h2];rfl
   .have h2:opsOne.contains s=false:=by simpa using h2
    simp only[h1,h2];rfl
 generalize zI2 s=M at hM⊢
 have ret: ∀(r:Int) (σ:St),r=M->wret (some (.int .i64 r)) 0 (fun r s=>r= .int .i64 M/\s= []) σ:=fun r σ h=>by subst h;exact wR
 unfold opsTwo opsOne at hM
 simp only[E4,List.contains_nil]at hM
 refine iW 0 func273 ntmps273 results273 fun c hc hb=>zJ ?_
 simp[go_sem]
 repeat' (first|(refine yW (fun q=> ?_) (fun q=> ?_)<;>simp[go_sem,q])|(refine zR (fun q=> ?_) (fun q=> ?_)<;>simp[go_sem,q]))
 all_goals exact ret _ _ (by simp_all)
def zz4 (e:GExpr):Bool:=e.kind==0&&(e.s.isEmpty&&(zs0 e.v&&e.args.isEmpty))
theorem xq5 (l:List GExpr) (hl:l.length<=maxLen):Pure prog 340 [.sl .ro (l.map GExpr.row),.sl .ro [],.fn 274 []] (.bool l.isEmpty):=by
 generalize hM:l.isEmpty=M
 have ret: ∀(r:Bool) (σ:St),r=M->wret (some (.bool r)) 0 (fun r s=>r= .bool M/\s= []) σ:=fun r σ h=>by subst h;exact wR
 refine iW 0 func340 ntmps340 results340 fun c hc hb=>zJ ?_
 cases l with
 |nil=>
  simp[go_sem]
  refine zI (S:=Unit) [15,16,17] (fun _=> [.sl .ro [],.int .i64 0,.int .i64 0]) (fun _=> []) (fun _=>0) (fun _=>True) hc hb () trivial ?_ ?_
  .exact aO
  rintro _ _
  refine zA ?_
  simp[go_sem]
  exact ret _ _ hM
 |cons x l=>
  have q:(((x::l).length:Int) !=0)=true:=by simp;omega
  simp only[Al,Int.natCast_add,Cj]at q
  simp[go_sem,q]
  exact ret _ _ hM
theorem xJ0 (e:GExpr) (hw:e.args.length<=maxLen):Pure prog 274 [.agg e.row,.agg zeroE.row] (.bool (zz4 e)):=by
 have heq:=xq5 e.args hw
 generalize hM:zz4 e=M
 unfold zz4 zs0 at hM
 generalize e.args.isEmpty=b at heq hM
 have ret: ∀(r:Bool) (σ:St),r=M->wret (some (.bool r)) 0 (fun r s=>r= .bool M/\s= []) σ:=fun r σ h=>by subst h;exact wR
 have aa:(e.s== [])=e.s.isEmpty:=by cases e.s<;>rfl
 have ab:(e.v.s== [])=e.v.s.isEmpty:=by cases e.v.s<;>rfl
 have z1:zeroE.kind=0:=rfl
 have z2:zeroE.s= []:=rfl
 have z3:zeroE.v=⟨0,0,[]⟩:=rfl
 have z4:zeroE.args= []:=rfl
 refine iW 0 func274 ntmps274 results274 fun c hc hb=>zJ ?_
 simp[go_sem,z1,z2,z3,z4]
 repeat' (first
  |(refine yW (fun q=> ?_) (fun q=> ?_)<;>simp[go_sem,q])
  |(refine zR (fun q=> ?_) (fun q=> ?_)<;>simp[go_sem,q])
  |(refine pC heq ?_;simp[go_sem]))
 all_goals exact ret _ _ (by rw[<-hM];simp_all)
theorem yV7 (e:GExpr) (hw:e.args.length<=maxLen):Pure prog 213 [.agg e.row] (.bool (zz4 e)):=by
 have h:=xJ0 e hw
 generalize zz4 e=b at h⊢
 refine iW 0 func213 ntmps213 results213 fun c hc hb=>zJ ?_
 simp[go_sem]
 refine zM h cB ⟨?_, ?_,tV⟩ rfl ?_
 .rw[GExpr.row_eq];exact zC rfl
 .rw[GExpr.row_eq]
  exact zu7 ⟨zU rfl,zU rfl,zU rfl,zU rfl,zU rfl,yS,tV⟩
 simp[go_sem]
 exact wR
def mayE:Nat->GExpr->Bool
 |0,_=>false
 |n+1,e=>
  if e.kind=1 then e.s.isEmpty&&(e.args.isEmpty&&(mayF e.v&&decide (0<=e.v.n)))
  else if e.kind=2 then zs0 e.v&&(e.args.isEmpty&&zl1 e.s)
  else if ¬e.kind=3∨zs0 e.v=false∨zF0 e.s=0∨ ¬(e.args.length:Int)=zF0 e.s then false
  else e.args.all (mayE n)
theorem zF7 {α:Type} (p:α->Bool) (l:List α) (i:Nat) (h:i<l.length):(l.drop i).all p=(p l[i]&&(l.drop (i+1)).all p):=by
 rw[Aa h,Am]
theorem zB1: ∀(n:Nat) (e:GExpr),n<=1000->Wide e->Good e->Pure prog 212 [.agg e.row,.int .i64 n] (.bool (mayE n e))
 |n,e,hn,hw,hg=>by
  have hlen:=hw.len
  have ak:=hw.sub
  have an:=hg.sub
  have ih: ∀m,n=m+1-> ∀x∈e.args,Pure prog 212 [.agg x.row,.int .i64 m] (.bool (mayE m x)):=fun m hm x hx=>zB1 m x om (ak x hx) (an x hx)
  have ag:=ym1 e.v
  have aa:=zK1 e.s (by have:=hg.str;unfold maxLen;omega)
  have ao:=yT3 e.s
  have hz:=ys3 e.v
  obtain⟨M,hM⟩:=eX (mayE n e)
  rw[hM]
  have ret: ∀(r:Bool) (σ:St),r=M->wret (some (.bool r)) 0 (fun r s=>r= .bool M/\s= []) σ:=fun r σ h=>by subst h;exact wR
  have ha:((e.args.length:Int)==0)=e.args.isEmpty:=by cases e.args<;>simp;omega
  have ar:(e.s== [])=e.s.isEmpty:=by cases e.s<;>rfl
  have au:(e.v.s== [])=e.v.s.isEmpty:=by cases e.v.s<;>rfl
  refine iV 0 func212 ntmps212 results212 fun c hc hb=> ?_
  by_cases h0:n=0
  .subst h0
   rw[mayE]at hM
   refine zA ?_
   simp[go_sem]
   exact ret _ _ hM
  obtain⟨m,rfl⟩: ∃m,n=m+1:=⟨n - 1,om⟩
  have ih:=ih m rfl
  rw[mayE]at hM
  have al:(((m+1:Nat):Int)==0)=false:=by simp;omega
  have em:IntKind.i64.wrap (((m+1:Nat):Int) - 1)=(m:Int):=by rw[i64_id om om];omega
  have aq:IntKind.i64.wrap (m:Int)=(m:Int):=i64_id om om
  refine zA ?_
  simp only[Int.natCast_add,Cj]at al em
  simp[go_sem,al]
  by_cases q1:e.kind=1
  .have af:(e.kind==1)=true:=by simpa using q1
   rw[if_pos q1]at hM
   generalize mayF e.v=b at ag hM
   generalize e.args.isEmpty=ae at ha hM
   simp[go_sem,af]
   repeat' (first
    |(refine yW (fun q=> ?_) (fun q=> ?_)<;>simp[go_sem,q,ha])
    |(refine zM ag cB (zO sg rfl) rfl ?_;simp[go_sem]))
   all_goals exact ret _ _ (by rw[<-hM];simp_all)
  rw[if_neg q1]at hM
  have af:(e.kind==1)=false:=by simpa using q1
  by_cases q2:e.kind=2
  .have ah:(e.kind==2)=true:=by simpa using q2
   rw[if_pos q2]at hM
   unfold zs0 at hM
   generalize zl1 e.s=b at aa hM
   generalize e.args.isEmpty=ae at ha hM
   simp[go_sem,af,ah]
   repeat' (first
    |(refine yW (fun q=> ?_) (fun q=> ?_)<;>simp[go_sem,q,ha])
    |(refine zM aa cB (zO sg rfl) rfl ?_;simp[go_sem]))
   all_goals exact ret _ _ (by rw[<-hM];simp_all)
  rw[if_neg q2]at hM
  have ah:(e.kind==2)=false:=by simpa using q2
  simp[go_sem,af,ah]
  refine zc3 [(15,0)] 1 sm kR kR ?_
  simp[go_sem]
  by_cases q3:e.kind=3
  rotate_left
  .have ai:(e.kind !=3)=true:=by simpa using q3
   rw[if_pos (.inl q3)]at hM
   simp[go_sem,ai]
   exact ret _ _ hM
  have ai:(e.kind !=3)=false:=by simpa using q3
  simp[go_sem,ai,hz]
  refine(Ab (zs0 e.v)).elim (fun w=> ?_) (fun w=> ?_)
  rotate_left
  .rw[if_pos (.inr (.inl w))]at hM
   simp[go_sem,w]
   exact ret _ _ hM
  simp[go_sem,w]
  refine zi1 ao cB (fun _=>zO sg rfl) rfl ?_
  unfold zI2
  by_cases q4:zF0 e.s=0∨ ¬(e.args.length:Int)=zF0 e.s
  .have aj:((e.args.length:Int) !=(if zF0 e.s=0 then -1 else zF0 e.s))=true:=by
    rcases q4 with q4|q4
    .rw[if_pos q4];simp<;>omega
    .by_cases q5:zF0 e.s=0
     .rw[if_pos q5];simp<;>omega
     .rw[if_neg q5];simpa using q4
   rw[if_pos (.inr (.inr q4))]at hM
   simp[go_sem,aj]
   exact ret _ _ hM
  have aj:((e.args.length:Int) !=(if zF0 e.s=0 then -1 else zF0 e.s))=false:=by
   rw[if_neg (fun h=>q4 (.inl h))]
   simp only[bne_eq_false_iff_eq]
   exact E9 fun h=>q4 (.inr h)
  rw[if_neg (fun h=>h.elim (fun h=>h q3) fun h=>h.elim (fun h=>by rw[w]at h;cases h) q4)]at hM
  simp[go_sem,aj]
  obtain⟨args,ab⟩:=eX e.args
  rw[ab]at hM hlen ih
  simp[go_sem,ab]
  refine zI (S:=Nat) [1,73,74,75] (fun i=> [.int .i64 ((m:Int)+1),.sl .ro (args.map GExpr.row),.int .i64 args.length,.int .i64 (i:Int)]) (fun _=> []) (fun i=>args.length - i)
   (fun i=>i<=args.length/\(args.drop i).all (mayE m)=M) hc hb 0 ⟨A7 _,by rw[Bh];exact hM⟩ ?_ ?_
  .exact aO
  rintro i ⟨hi,hinv⟩
  by_cases q:i<args.length
  rotate_left
  .rw[Ad om]at hinv
   refine zA ?_
   simp[go_sem,q]
   exact ret _ _ hinv
  have ei:=zS q om
  rw[zF7 _ _ _ q]at hinv
  obtain⟨x,hx⟩:=eX (args[i])
  have ad:=ih x (hx▸Ac q)
  rw[hx]at hinv
  generalize mayE m x=b at ad hinv
  refine zA ?_
  simp[go_sem,q,hx,aq]
  refine zM ad cB (zO sg (by rw[GExpr.row_eq];rfl)) rfl ?_
  refine(Ab b).elim (fun p=> ?_) (fun p=> ?_)
  .rw[p,Be]at hinv
   simp[go_sem,p,ei]
   exact zH (i+1) ⟨om,⟨om,hinv⟩,aO⟩
  .rw[p,Ea]at hinv
   simp[go_sem,p]
   exact ret _ _ hinv
def mayI (n:Nat) (x:GItem):Bool:=if x.kind=1 then decide (n<=1)&&zz4 x.e else if x.kind=3 then zz4 x.e else if x.kind=2∨x.kind=4 then mayE 16 x.e else false
def yG5 (l:List GItem):Bool:=l.all (mayI l.length)&&(decide (1<=l.length)&&decide (l.length<=6))
def mayR (r:List GExpr):Bool:=(decide (1<=r.length)&&decide (r.length<=6))&&r.all (mayE 16)
def yG6 (l:List (List GExpr)):Bool:=l.all mayR&&(decide (1<=l.length)&&decide (l.length<=16))
def mayA (x:GAssign):Bool:=zl1 x.name&&mayE 16 x.e
def yG3 (l:List GAssign):Bool:=(decide (1<=l.length)&&decide (l.length<=6))&&l.all mayA
theorem bret {b M:Bool} {σ:St} (h:b=M):wret (some (.bool b)) 0 (fun r s=>r= .bool M/\s= []) σ:=by subst h;exact wR
theorem yQ0 (l:List GItem) (hl:l.length<=12) (hx: ∀x∈l,i64R x.kind/\EOk x.e):Pure prog 214 [.sl .ro (l.map GItem.row)] (.bool (yG5 l)):=by
 obtain⟨n,hn⟩:=eX l.length
 generalize hM:yG5 l=M
 unfold yG5 at hM
 rw[hn]at hM
 have e1:decide ((1:Int)<=n)=decide (1<=n):=decide_eq_decide.2 om
 have e2:decide ((n:Int)<=6)=decide (n<=6):=decide_eq_decide.2 om
 have e3:decide ((1:Int)<n)= !decide (n<=1):=by
  by_cases h:n<=1
  .rw[decide_eq_true h,decide_eq_false om];rfl
  .rw[decide_eq_false h,decide_eq_true om];rfl
 refine iV 0 func214 ntmps214 results214 fun c hc hb=> ?_
 refine zA ?_
 simp[go_sem]
 refine zI (S:=Nat) [0,5,6,7] (fun i=> [.sl .ro (l.map GItem.row),.sl .ro (l.map GItem.row),.int .i64 n,.int .i64 (i:Int)]) (fun _=> []) (fun i=>n - i)
  (fun i=>i<=n/\((l.drop i).all (mayI n)&&(decide (1<=n)&&decide (n<=6)))=M) hc hb 0 ⟨A7 _,by rw[Bh];exact hM⟩ ?_ ?_
 .exact at_0 rfl (zO (by simp[go_sem,hn]) rfl)
 rintro i ⟨hi,hinv⟩
 by_cases q:i<n
 rotate_left
 .rw[Ad om,Cp,Be]at hinv
  refine zA ?_
  simp[go_sem,q,hn,e1]
  refine yW (fun w=> ?_) (fun w=> ?_)
  .simp[go_sem,w,hn,e2]
   exact bret (by rw[<-hinv,w,Be])
  .simp[go_sem,w]
   exact bret (by rw[<-hinv,w];rfl)
 have hq:i<l.length:=om
 have ei:=zS q om
 rw[zF7 _ _ _ hq]at hinv
 obtain⟨x,ag⟩:=eX (l[i])
 obtain⟨hk,hE⟩:=hx x (ag▸Ac hq)
 have ah:=yV7 x.e (by have:=hE.wide.len;unfold maxLen;omega)
 have ae:=zB1 16 x.e dc hE.wide hE.good
 rw[ag]at hinv
 obtain⟨b,aa⟩:=eX (mayI n x)
 rw[aa]at hinv
 unfold mayI at aa
 have yes:b=true->((l.drop (i+1)).all (mayI n)&&(decide (1<=n)&&decide (n<=6)))=M:=fun h=>by rw[h,Be]at hinv;exact hinv
 have no:b=false->false=M:=fun h=>by rw[h]at hinv;exact hinv
 clear hinv
 generalize zz4 x.e=bl at ah aa
 generalize mayE 16 x.e=me at ae aa
 simp only[Cj]at ae
 refine zA ?_
 simp[go_sem,q,hq,ag]
 by_cases k1:x.kind=1
 .have ab:(x.kind==1)=true:=by simpa using k1
  rw[if_pos k1]at aa
  simp[go_sem,ab,hn,e3]
  refine yW (fun w=> ?_) (fun w=> ?_)
  .have w2:decide (n<=1)=true:=by simpa using w
   rw[w2,Be]at aa
   simp[go_sem,w2]
   refine zM ah cB (zO sg (by rw[GExpr.row_eq];rfl)) rfl ?_
   simp[go_sem]
   refine(Ab bl).elim (fun w=> ?_) (fun w=> ?_)
   .simp[go_sem,w,ei]
    exact zH (i+1) ⟨om,⟨om,yes (by rw[<-aa,w])⟩,aO⟩
   .simp[go_sem,w]
    exact bret (no (by rw[<-aa,w]))
  .have w2:decide (n<=1)=false:=by simpa using w
   rw[w2,Ea]at aa
   simp[go_sem,w2]
   exact bret (no aa.symm)
 rw[if_neg k1]at aa
 have ab:(x.kind==1)=false:=by simpa using k1
 by_cases k3:x.kind=3
 .have ad:(x.kind==3)=true:=by simpa using k3
  rw[if_pos k3]at aa
  simp[go_sem,ab,ad]
  refine zM ah cB (zO sg (by rw[GExpr.row_eq];rfl)) rfl ?_
  simp[go_sem]
  refine(Ab bl).elim (fun w=> ?_) (fun w=> ?_)
  .simp[go_sem,w,ei]
   exact zH (i+1) ⟨om,⟨om,yes (by rw[<-aa,w])⟩,aO⟩
  .simp[go_sem,w]
   exact bret (no (by rw[<-aa,w]))
 rw[if_neg k3]at aa
 have ad:(x.kind==3)=false:=by simpa using k3
 by_cases k2:x.kind=2
 .have af:(x.kind==2)=true:=by simpa using k2
  rw[if_pos (.inl k2)]at aa
  simp[go_sem,ab,ad,af]
  refine zM ae cB (zO sg (by rw[GExpr.row_eq];rfl)) rfl ?_
  simp[go_sem]
  refine(Ab me).elim (fun w=> ?_) (fun w=> ?_)
  .simp[go_sem,w,ei]
   exact zH (i+1) ⟨om,⟨om,yes (by rw[<-aa,w])⟩,aO⟩
  .simp[go_sem,w]
   exact bret (no (by rw[<-aa,w]))
 have af:(x.kind==2)=false:=by simpa using k2
 by_cases k4:x.kind=4
 .have ai:(x.kind==4)=true:=by simpa using k4
  rw[if_pos (.inr k4)]at aa
  simp[go_sem,ab,ad,af,ai]
  refine zM ae cB (zO sg (by rw[GExpr.row_eq];rfl)) rfl ?_
  simp[go_sem]
  refine(Ab me).elim (fun w=> ?_) (fun w=> ?_)
  .simp[go_sem,w,ei]
   exact zH (i+1) ⟨om,⟨om,yes (by rw[<-aa,w])⟩,aO⟩
  .simp[go_sem,w]
   exact bret (no (by rw[<-aa,w]))
 have ai:(x.kind==4)=false:=by simpa using k4
 rw[if_neg (fun h=>h.elim k2 k4)]at aa
 simp[go_sem,ab,ad,af,ai]
 exact bret (no aa.symm)
def zc1 {α:Type} (p:α->Bool):List α->Nat->Int
 | [],_=> -1
 |x::l,i=>if p x=true then(i:Int)else zc1 p l (i+1)
theorem zA5 {α:Type} (p:α->Bool): ∀(l:List α) (i:Nat),decide (0<=zc1 p l i)=l.any p
 | [],i=>rfl
 |x::l,i=>by
  rw[zc1,List.any_cons]
  split
  .rename_i h;rw[h];exact decide_eq_true om
  .rename_i h
   have h:p x=false:=by simpa using h
   rw[h,Ce,zA5 p l (i+1)]
theorem xP8 (x:GExpr) (hE:EOk x):Pure prog 276 [.agg x.row] (.bool (!mayE 16 x)):=by
 have aa:=zB1 16 x dc hE.wide hE.good
 generalize mayE 16 x=b at aa⊢
 simp only[Cj]at aa
 refine iW 0 func276 ntmps276 results276 fun c hc hb=>zJ ?_
 simp[go_sem]
 refine zM aa cB (zO sg (by rw[GExpr.row_eq];rfl)) rfl ?_
 simp[go_sem]
 exact wR
theorem xP7 (x:GAssign) (hn:x.name.length<=maxLen) (hE:EOk x.e):Pure prog 277 [.agg x.row] (.bool (!mayA x)):=by
 have aa:=zB1 16 x.e dc hE.wide hE.good
 have hw:=zK1 x.name hn
 generalize hM:(!mayA x)=M
 unfold mayA at hM
 generalize mayE 16 x.e=b at aa hM
 generalize zl1 x.name=w at hw hM
 simp only[Cj]at aa
 refine iW 0 func277 ntmps277 results277 fun c hc hb=>zJ ?_
 simp[go_sem]
 refine zM hw cB (zO sg rfl) rfl ?_
 refine(Ab w).elim (fun p=> ?_) (fun p=> ?_)
 .simp[go_sem,p]
  refine zM aa cB (zO sg (by rw[GExpr.row_eq];rfl)) rfl ?_
  simp[go_sem]
  exact bret (by rw[<-hM,p,Be])
 .simp[go_sem,p]
  exact bret (by rw[<-hM,p];rfl)
theorem xR5 (l:List GExpr) (hl:l.length<=12) (hx: ∀x∈l,EOk x):Pure prog 341 [.sl .ro (l.map GExpr.row),.fn 276 []] (.int .i64 (zc1 (fun x=> !mayE 16 x) l 0)):=by
 generalize hM:zc1 (fun x=> !mayE 16 x) l 0=M
 have ret: ∀(r:Int) (σ:St),r=M->wret (some (.int .i64 r)) 0 (fun r s=>r= .int .i64 M/\s= []) σ:=fun r σ h=>by subst h;exact wR
 refine iV 0 func341 ntmps341 results341 fun c hc hb=> ?_
 refine zA ?_
 simp[go_sem]
 refine zI (S:=Nat) [0,1,6,7,8] (fun i=> [.sl .ro (l.map GExpr.row),.fn 276 [],.sl .ro (l.map GExpr.row),.int .i64 l.length,.int .i64 (i:Int)]) (fun _=> []) (fun i=>l.length - i)
  (fun i=>i<=l.length/\zc1 (fun x=> !mayE 16 x) (l.drop i) i=M) hc hb 0 ⟨A7 _,hM⟩ ?_ ?_
 .exact aO
 rintro i ⟨hi,hinv⟩
 by_cases q:i<l.length
 rotate_left
 .rw[Ad om]at hinv
  refine zA ?_
  simp[go_sem,q]
  exact ret _ _ hinv
 have ei:=zS q om
 obtain⟨x,ab⟩:=eX (l[i])
 rw[Aa q,ab,zc1]at hinv
 have aa:=xP8 x (hx x (ab▸Ac q))
 generalize (!mayE 16 x)=b at aa hinv
 refine zA ?_
 simp[go_sem,q,ab]
 refine zM aa cB (zO sg (by rw[GExpr.row_eq];rfl)) rfl ?_
 refine(Ab b).elim (fun p=> ?_) (fun p=> ?_)
 .rw[if_pos p]at hinv
  simp[go_sem,p]
  exact ret _ _ hinv
 .rw[if_neg (by rw[p];decide)]at hinv
  simp[go_sem,p,ei]
  exact zH (i+1) ⟨om,⟨om,hinv⟩,aO⟩
theorem xR0 (l:List GExpr) (hl:l.length<=12) (hx: ∀x∈l,EOk x):Pure prog 275 [.sl .ro (l.map GExpr.row),.fn 276 []] (.bool (!l.all (mayE 16))):=by
 have h:=xR5 l hl hx
 have hg:=zA5 (fun x=> !mayE 16 x) l 0
 have ha:l.any (fun x=> !mayE 16 x)= !l.all (mayE 16):=by rw[List.all_eq_not_any_not,Bool.not_not]
 rw[ha]at hg
 rw[<-hg]
 generalize zc1 (fun x=> !mayE 16 x) l 0=n at h⊢
 refine iW 0 func275 ntmps275 results275 fun c hc hb=>zJ ?_
 simp[go_sem]
 refine zM h cB (zO sg rfl) rfl ?_
 simp[go_sem]
 exact wR
theorem xR2 (l:List GAssign) (hl:l.length<=12) (hx: ∀x∈l,x.name.length<=1048576/\EOk x.e):Pure prog 278 [.sl .ro (l.map GAssign.row),.fn 277 []] (.int .i64 (zc1 (fun x=> !mayA x) l 0)):=by
 generalize hM:zc1 (fun x=> !mayA x) l 0=M
 have ret: ∀(r:Int) (σ:St),r=M->wret (some (.int .i64 r)) 0 (fun r s=>r= .int .i64 M/\s= []) σ:=fun r σ h=>by subst h;exact wR
 refine iV 0 func278 ntmps278 results278 fun c hc hb=> ?_
 refine zA ?_
 simp[go_sem]
 refine zI (S:=Nat) [0,1,6,7,8] (fun i=> [.sl .ro (l.map GAssign.row),.fn 277 [],.sl .ro (l.map GAssign.row),.int .i64 l.length,.int .i64 (i:Int)]) (fun _=> []) (fun i=>l.length - i)
  (fun i=>i<=l.length/\zc1 (fun x=> !mayA x) (l.drop i) i=M) hc hb 0 ⟨A7 _,hM⟩ ?_ ?_
 .exact aO
 rintro i ⟨hi,hinv⟩
 by_cases q:i<l.length
 rotate_left
 .rw[Ad om]at hinv
  refine zA ?_
  simp[go_sem,q]
  exact ret _ _ hinv
 have ei:=zS q om
 obtain⟨x,ab⟩:=eX (l[i])
 rw[Aa q,ab,zc1]at hinv
 obtain⟨ae,ad⟩:=hx x (ab▸Ac q)
 have aa:=xP7 x (by unfold maxLen;omega) ad
 generalize (!mayA x)=b at aa hinv
 refine zA ?_
 simp[go_sem,q,ab]
 refine zM aa cB (zO sg rfl) rfl ?_
 refine(Ab b).elim (fun p=> ?_) (fun p=> ?_)
 .rw[if_pos p]at hinv
  simp[go_sem,p]
  exact ret _ _ hinv
 .rw[if_neg (by rw[p];decide)]at hinv
  simp[go_sem,p,ei]
  exact zH (i+1) ⟨om,⟨om,hinv⟩,aO⟩
theorem xQ8 (l:List GAssign) (hl:l.length<=12) (hx: ∀x∈l,x.name.length<=1048576/\EOk x.e):Pure prog 218 [.sl .ro (l.map GAssign.row),.fn 277 []] (.bool (!l.all mayA)):=by
 have h:=xR2 l hl hx
 have hg:=zA5 (fun x=> !mayA x) l 0
 have ha:l.any (fun x=> !mayA x)= !l.all mayA:=by rw[List.all_eq_not_any_not,Bool.not_not]
 rw[ha]at hg
 rw[<-hg]
 generalize zc1 (fun x=> !mayA x) l 0=n at h⊢
 refine iW 0 func218 ntmps218 results218 fun c hc hb=>zJ ?_
 simp[go_sem]
 refine zM h cB (zO sg rfl) rfl ?_
 simp[go_sem]
 exact wR
theorem dec1 (n:Nat):decide ((1:Int)<=n)=decide (1<=n):=decide_eq_decide.2 om
theorem xM7 (n k:Nat):decide ((n:Int)<=k)=decide (n<=k):=decide_eq_decide.2 om
theorem xg9 (l:List (List GExpr)) (hl:l.length<=20) (hx: ∀r∈l,r.length<=12/\ ∀e∈r,EOk e):Pure prog 215 [.sl .ro (l.map fun r=> [V.sl .ro (r.map GExpr.row)])] (.bool (yG6 l)):=by
 obtain⟨n,hn⟩:=eX l.length
 generalize hM:yG6 l=M
 unfold yG6 at hM
 rw[hn]at hM
 have e1:=dec1 n
 have e2:decide ((n:Int)<=16)=decide (n<=16):=xM7 n 16
 refine iV 0 func215 ntmps215 results215 fun c hc hb=> ?_
 refine zA ?_
 simp[go_sem]
 refine zI (S:=Nat) [0,5,6,7] (fun i=> [.sl .ro (l.map fun r=> [V.sl .ro (r.map GExpr.row)]),.sl .ro (l.map fun r=> [V.sl .ro (r.map GExpr.row)]),.int .i64 n,.int .i64 (i:Int)]) (fun _=> []) (fun i=>n - i)
  (fun i=>i<=n/\((l.drop i).all mayR&&(decide (1<=n)&&decide (n<=16)))=M) hc hb 0 ⟨A7 _,by rw[Bh];exact hM⟩ ?_ ?_
 .exact at_0 rfl (zO (by simp[go_sem,hn]) rfl)
 rintro i ⟨hi,hinv⟩
 by_cases q:i<n
 rotate_left
 .rw[Ad om,Cp,Be]at hinv
  refine zA ?_
  simp[go_sem,q,hn,e1]
  refine yW (fun w=> ?_) (fun w=> ?_)
  .simp[go_sem,w,hn,e2]
   exact bret (by rw[<-hinv,w,Be])
  .simp[go_sem,w]
   exact bret (by rw[<-hinv,w];rfl)
 have hq:i<l.length:=om
 have ei:=zS q om
 rw[zF7 _ _ _ hq]at hinv
 obtain⟨r,hr⟩:=eX (l[i])
 obtain⟨af,ag⟩:=hx r (hr▸Ac hq)
 have ab:=xR0 r af ag
 rw[hr]at hinv
 obtain⟨b,aa⟩:=eX (mayR r)
 rw[aa]at hinv
 unfold mayR at aa
 have yes:b=true->((l.drop (i+1)).all mayR&&(decide (1<=n)&&decide (n<=16)))=M:=fun h=>by rw[h,Be]at hinv;exact hinv
 have no:b=false->false=M:=fun h=>by rw[h]at hinv;exact hinv
 clear hinv
 generalize r.all (mayE 16)=ra at ab aa
 have ad:((r.length:Int)==0)= !decide (1<=r.length):=by
  cases r with
  |nil=>rfl
  |cons _ _=>rw[decide_eq_true sm];simp;omega
 have ae:decide ((6:Int)<r.length)= !decide (r.length<=6):=by
  by_cases h:r.length<=6
  .rw[decide_eq_true h,decide_eq_false om];rfl
  .rw[decide_eq_false h,decide_eq_true om];rfl
 generalize decide (1<=r.length)=d1 at ad aa
 generalize decide (r.length<=6)=d2 at ae aa
 refine zA ?_
 simp[go_sem,q,hq,hr,ad]
 refine(Ab d1).elim (fun w=> ?_) (fun w=> ?_)
 rotate_left
 .simp[go_sem,w]
  exact bret (no (by rw[<-aa,w];rfl))
 simp[go_sem,w,ae]
 refine(Ab d2).elim (fun w2=> ?_) (fun w2=> ?_)
 rotate_left
 .simp[go_sem,w2]
  exact bret (no (by rw[<-aa,w,w2];rfl))
 simp[go_sem,w2]
 refine zM ab cB (zO sg rfl) rfl ?_
 simp[go_sem]
 refine(Ab ra).elim (fun w3=> ?_) (fun w3=> ?_)
 .simp[go_sem,w3,ei]
  exact zH (i+1) ⟨om,⟨om,yes (by rw[<-aa,w,w2,w3];rfl)⟩,aO⟩
 .simp[go_sem,w3]
  exact bret (no (by rw[<-aa,w,w2,w3];rfl))
theorem xh0 (l:List GAssign) (hl:l.length<=12) (hx: ∀x∈l,x.name.length<=1048576/\EOk x.e):Pure prog 216 [.sl .ro (l.map GAssign.row)] (.bool (yG3 l)):=by
 have aa:=xQ8 l hl hx
 generalize hM:yG3 l=M
 unfold yG3 at hM
 generalize l.all mayA=a at aa hM
 obtain⟨n,hn⟩:=eX l.length
 rw[hn]at hM
 have e1:=dec1 n
 have e2:decide ((n:Int)<=6)=decide (n<=6):=xM7 n 6
 refine iW 0 func216 ntmps216 results216 fun c hc hb=>zJ ?_
 simp[go_sem,hn,e1]
 refine yW (fun w=> ?_) (fun w=> ?_)
 rotate_left
 .simp[go_sem,w]
  exact bret (by rw[<-hM,w];rfl)
 simp[go_sem,w,hn,e2]
 refine yW (fun w2=> ?_) (fun w2=> ?_)
 rotate_left
 .simp[go_sem,w2]
  exact bret (by rw[<-hM,w,w2];rfl)
 simp[go_sem,w2]
 refine zM aa cB (zO sg rfl) rfl ?_
 simp[go_sem]
 exact bret (by rw[<-hM,w,w2];rfl)
def xy3 (st:GStmt):Bool:=
 !((!(st.kind==1)&&(!st.items.isEmpty||(!st.order.isEmpty||(st.down|| !(st.limit==0)))))||((!(st.kind==2)&& !st.rows.isEmpty)||(!(st.kind==3)&& !st.sets.isEmpty)))
def xN2 (st:GStmt):Bool:=zl1 st.table&&(if st.filtered=true then mayE 16 st.where_ else zz4 st.where_)
def xn6 (st:GStmt):Bool:=
 if st.kind=1 then yG5 st.items&&(((st.order.isEmpty&& !st.down)||zl1 st.order)&&decide (-1<=st.limit))
 else if st.kind=2 then yG6 st.rows&& !st.filtered
 else if st.kind=3 then yG3 st.sets
 else st.kind==4
def mayS (st:GStmt):Bool:=xN2 st&&(xy3 st&&xn6 st)
theorem zT6 {α:Type} (l:List α):decide (0<l.length)= !l.isEmpty:=by
 cases l with
 |nil=>rfl
 |cons _ _=>exact decide_eq_true (by simp only[Al];omega)
theorem xh1 (st:GStmt) (hs:SOk st):Pure prog 140 [.agg st.row] (.bool (mayS st)):=by
 have ai:=zK1 st.table (by have:=hs.table;unfold maxLen;omega)
 have aj:=zK1 st.order (by have:=hs.order;unfold maxLen;omega)
 have af:=zB1 16 st.where_ dc hs.where_.wide hs.where_.good
 have ak:=yV7 st.where_ (by have:=hs.where_.wide.len;unfold maxLen;omega)
 have hit:=yQ0 st.items hs.items.1 hs.items.2
 have al:=xg9 st.rows hs.rows.1 hs.rows.2
 have an:=xh0 st.sets hs.sets.1 hs.sets.2
 simp only[Cj]at af
 generalize hM:mayS st=M
 unfold mayS xN2 xy3 xn6 at hM
 obtain⟨k,hk⟩:=eX st.kind
 obtain⟨f,hf⟩:=eX st.filtered
 obtain⟨d,hd⟩:=eX st.down
 rw[hk,hf,hd]at hM
 generalize zl1 st.table=wt at ai hM
 generalize zl1 st.order=wo at aj hM
 generalize mayE 16 st.where_=me at af hM
 generalize zz4 st.where_=bl at ak hM
 generalize yG5 st.items=mi at hit hM
 generalize yG6 st.rows=mr at al hM
 generalize yG3 st.sets=ms at an hM
 have ao:=zT6 st.items
 have aq:=zT6 st.rows
 have ar:=zT6 st.sets
 have a1:(st.order != [])= !st.order.isEmpty:=by cases st.order<;>rfl
 have ay:(st.order== [])=st.order.isEmpty:=by cases st.order<;>rfl
 generalize st.items.isEmpty=ie at ao hM
 generalize st.rows.isEmpty=re at aq hM
 generalize st.sets.isEmpty=se at ar hM
 have hz: ∀b:Bool,b=M-> ∀σ:St,wret (some (.bool b)) 0 (fun r s=>r= .bool M/\s= []) σ:=fun b h σ=>bret h
 have ag:((wt&&(if f=true then me else bl))=false->false=M)/\((wt&&(if f=true then me else bl))=true->(!((!(k==1)&&(!ie||(!st.order.isEmpty||(d|| !(st.limit==0)))))||((!(k==2)&& !re)||(!(k==3)&& !se)))&&(if k=1 then mi&&(((st.order.isEmpty&& !d)||wo)&&decide (-1<=st.limit))else if k=2 then mr&& !f else if k=3 then ms else k==4))=M):=by
  constructor
  .intro h;rw[h]at hM;exact hM
  .intro h;rw[h,Be]at hM;exact hM
 obtain⟨ab,ae⟩:=ag
 clear hM
 refine iV 0 func140 ntmps140 results140 fun c hc hb=> ?_
 refine zP (zA ?_)
 simp[go_sem]
 refine zf5 (S:=Unit) [1] (fun _=> [.ptr 0 0]) (fun _=> [.box st.row]) (fun _=>(wt&&(if f=true then me else bl))=true) hc hb ?_ ?_
 .refine zA ?_
  simp[go_sem]
  refine zM ai cB (zO sg rfl) rfl ?_
  refine(Ab wt).elim (fun w=> ?_) (fun w=> ?_)
  rotate_left
  .simp[go_sem,w]
   exact bret (ab (by rw[w];rfl))
  simp[go_sem,w,hf]
  refine(Ab f).elim (fun w2=> ?_) (fun w2=> ?_)
  .simp[go_sem,w2]
   refine zM af cB (zO sg (by rw[GExpr.row_eq];rfl)) rfl ?_
   refine(Ab me).elim (fun w3=> ?_) (fun w3=> ?_)
   .simp[go_sem,w3,w2]
    exact zH () ⟨by rw[w,w2,w3];rfl,at_n 1 (by simp[go_sem,hk,hf,hd,w2]) rfl (by simp[ltOb,ltC,ltK]) (A7 _) (zF sg rfl)⟩
   .simp[go_sem,w3]
    exact bret (ab (by rw[w,w2,w3];rfl))
  .simp[go_sem,w2]
   refine zM ak cB (zO sg (by rw[GExpr.row_eq];rfl)) rfl ?_
   refine(Ab bl).elim (fun w3=> ?_) (fun w3=> ?_)
   .simp[go_sem,w3]
    exact zH () ⟨by rw[w,w2,w3];rfl,at_n 1 (by simp[go_sem,hk,hf,hd,w2]) rfl (by simp[ltOb,ltC,ltK]) (A7 _) (zF sg rfl)⟩
   .simp[go_sem,w3]
    exact bret (ab (by rw[w,w2,w3];rfl))
 .rintro _ h1
  have hM:=ae h1
  clear ab ae
  generalize hB:(if k=1 then mi&&(((st.order.isEmpty&& !d)||wo)&&decide (-1<=st.limit))else if k=2 then mr&& !f else if k=3 then ms else k==4)=B at hM
  obtain⟨S,hS⟩:=eX (((!(k==1)&&(!ie||(!st.order.isEmpty||(d|| !(st.limit==0)))))||((!(k==2)&& !re)||(!(k==3)&& !se))))
  rw[hS]at hM
  have no:S=true->false=M:=fun h=>by rw[h]at hM;exact hM
  have yes:S=false->B=M:=fun h=>by rw[h]at hM;exact hM
  clear hM
  have au:(st.limit !=0)= !(st.limit==0):=rfl
  have av:(st.kind !=2)= !(k==2):=by rw[hk];rfl
  have aw:(st.kind !=3)= !(k==3):=by rw[hk];rfl
  have ax:(st.kind==1)=(k==1):=by rw[hk]
  refine zP (zA ?_)
  simp[go_sem]
  refine zf5 (S:=Unit) [1] (fun _=> [.ptr 0 0]) (fun _=> [.box st.row]) (fun _=>S=false) hc hb ?_ ?_
  .generalize (st.limit==0)=l0 at au hS
   generalize (k==1)=k1 at ax hS
   generalize (k==2)=k2 at av hS
   generalize (k==3)=k3 at aw hS
   clear yes hB
   refine zA ?_
   simp[go_sem,ax]
   repeat' (first
    |(refine yW (fun w=> ?_) (fun w=> ?_)<;>simp[go_sem,w,av,aw,au,ao,aq,ar,hd])
    |(refine zR (fun w=> ?_) (fun w=> ?_)<;>simp[go_sem,w]))
   all_goals first
    |exact bret (no (by rw[<-hS];simp_all))
    |exact zH () ⟨by rw[<-hS];simp_all,at_n 1 (by simp[go_sem,hd]<;>simp_all) rfl (by simp[ltOb,ltC,ltK]) (A7 _) (zF sg rfl)⟩
  .rintro _ az
   have hM:=yes az
   rw[<-hB]at hM
   clear yes no hS hB
   refine zA ?_
   simp[go_sem,hk]
   by_cases k1:k=1
   .have aa:(k==1)=true:=by simpa using k1
    rw[if_pos k1]at hM
    have a6:decide (-1<=st.limit)=decide (-1<=st.limit):=rfl
    simp[go_sem,aa]
    refine zM hit cB (zO sg rfl) rfl ?_
    simp[go_sem]
    repeat' (first
     |(refine yW (fun w=> ?_) (fun w=> ?_)<;>simp[go_sem,w,ay,hd])
     |(refine zM aj cB (zO sg rfl) rfl ?_;simp[go_sem]))
    all_goals exact bret (by rw[<-hM];simp_all)
   have aa:(k==1)=false:=by simpa using k1
   rw[if_neg k1]at hM
   by_cases k2:k=2
   .have ad:(k==2)=true:=by simpa using k2
    rw[if_pos k2]at hM
    simp[go_sem,aa,ad]
    refine zM al cB (zO sg rfl) rfl ?_
    simp[go_sem]
    refine(Ab mr).elim (fun w=> ?_) (fun w=> ?_)
    .simp[go_sem,w,hf]
     exact bret (by rw[<-hM,w];rfl)
    .simp[go_sem,w]
     exact bret (by rw[<-hM,w];rfl)
   have ad:(k==2)=false:=by simpa using k2
   rw[if_neg k2]at hM
   by_cases k3:k=3
   .have ah:(k==3)=true:=by simpa using k3
    rw[if_pos k3]at hM
    simp[go_sem,aa,ad,ah]
    refine zM an cB (zO sg rfl) rfl ?_
    simp[go_sem]
    exact bret hM
   have ah:(k==3)=false:=by simpa using k3
   rw[if_neg k3]at hM
   simp[go_sem,aa,ad,ah]
   exact bret hM
def xN1 (l:GLot):Bool:=(decide (0<=l.mode)&&(decide (l.mode<=2)&&(decide (0<=l.n)&&(!(l.mode==0&& !(l.n==0))))))&&(decide (1<=l.stmts.length)&&decide (l.stmts.length<=8))
def mayL (l:GLot):Bool:=xN1 l&&l.stmts.all mayS
theorem xl0 (l:GLot) (hl:LOk l):Pure prog 84 [.agg l.row] (.bool (mayL l)):=by
 obtain⟨L,hL⟩:=eX l.stmts
 obtain⟨m,hm⟩:=eX l.mode
 obtain⟨n,hn⟩:=eX l.n
 obtain⟨ag,ae⟩:=hl.stmts
 rw[hL]at ag ae
 generalize hM:mayL l=M
 unfold mayL xN1 at hM
 rw[hL,hm,hn]at hM
 have no: ∀h:Bool,(h&&L.all mayS)=M->h=false->false=M:=fun h q w=>by rw[w]at q;exact q
 refine iV 0 func84 ntmps84 results84 fun c hc hb=> ?_
 refine zP (zA ?_)
 simp[go_sem]
 refine zf5 (S:=Unit) [1] (fun _=> [.ptr 0 0]) (fun _=> [.box l.row]) (fun _=>L.all mayS=M) hc hb ?_ ?_
 .have d1:decide (m<0)= !decide (0<=m):=by
   by_cases h:0<=m
   .rw[decide_eq_true h,decide_eq_false om];rfl
   .rw[decide_eq_false h,decide_eq_true om];rfl
  have d2:decide (2<m)= !decide (m<=2):=by
   by_cases h:m<=2
   .rw[decide_eq_true h,decide_eq_false om];rfl
   .rw[decide_eq_false h,decide_eq_true om];rfl
  have d3:decide (n<0)= !decide (0<=n):=by
   by_cases h:0<=n
   .rw[decide_eq_true h,decide_eq_false om];rfl
   .rw[decide_eq_false h,decide_eq_true om];rfl
  have d4:((L.length:Int)==0)= !decide (1<=L.length):=by
   by_cases h:1<=L.length
   .rw[decide_eq_true h];simp;intro hh;rw[hh]at h;simp at h
   .rw[decide_eq_false h]
    have:L= []:=B7 om
    rw[this];rfl
  have d5:decide ((8:Int)<L.length)= !decide (L.length<=8):=by
   by_cases h:L.length<=8
   .rw[decide_eq_true h,decide_eq_false om];rfl
   .rw[decide_eq_false h,decide_eq_true om];rfl
  have d6:(n !=0)= !(n==0):=rfl
  generalize decide (0<=m)=b1 at d1 hM
  generalize decide (m<=2)=b2 at d2 hM
  generalize decide (0<=n)=b3 at d3 hM
  generalize decide (1<=L.length)=b4 at d4 hM
  generalize decide (L.length<=8)=b5 at d5 hM
  generalize (n==0)=b6 at d6 hM
  have af:=no _ hM
  have ab:((b1&&(b2&&(b3&&(!(m==0&& !b6)))))&&(b4&&b5))=true->L.all mayS=M:=fun h=>by rw[h,Be]at hM;exact hM
  generalize ah:(m==0)=b7 at af ab
  clear hM no
  refine zA ?_
  simp[go_sem,hm,hn,hL,d1]
  repeat' (first
   |(refine yW (fun w=> ?_) (fun w=> ?_)<;>simp[go_sem,w,ah,d2,d3,d4,d5,d6])
   |(refine zR (fun w=> ?_) (fun w=> ?_)<;>simp[go_sem,w]))
  all_goals first
   |exact bret (af (by simp_all))
   |exact zH () ⟨ab (by simp_all),at_n 1 (by simp[go_sem,hm,hn,hL]) rfl (by simp[ltOb,ltC,ltK]) (A7 _) (zF sg rfl)⟩
 .rintro _ hM
  refine zA ?_
  simp[go_sem,hL]
  refine zI (S:=Nat) [41,42,43] (fun i=> [.sl .ro (L.map GStmt.row),.int .i64 L.length,.int .i64 (i:Int)]) (fun _=> []) (fun i=>L.length - i) (fun i=>i<=L.length/\(L.drop i).all mayS=M) hc hb 0 ⟨A7 _,by rw[Bh];exact hM⟩ ?_ ?_
  .exact aO
  rintro i ⟨hi,hinv⟩
  by_cases q:i<L.length
  rotate_left
  .rw[Ad om]at hinv
   refine zA ?_
   simp[go_sem,q]
   exact bret hinv
  have ei:=zS q om
  rw[zF7 _ _ _ q]at hinv
  obtain⟨st,ad⟩:=eX (L[i])
  have aa:=xh1 st (ae st (ad▸Ac q))
  rw[ad]at hinv
  generalize mayS st=b at aa hinv
  refine zA ?_
  simp[go_sem,q,ad]
  refine zM aa cB (zO sg rfl) rfl ?_
  refine(Ab b).elim (fun p=> ?_) (fun p=> ?_)
  .rw[p,Be]at hinv
   simp[go_sem,p,ei]
   exact zH (i+1) ⟨om,⟨om,hinv⟩,aO⟩
  .rw[p,Ea]at hinv
   simp[go_sem,p]
   exact bret hinv
def zv3 (T:GTable) (e:GExpr) (want:Int):Int:=if(zb2 T e).2≠0 then(zb2 T e).2 else if(zb2 T e).1≠want/\(zb2 T e).1≠0 then 15 else 0
theorem iret {b M:Int} {σ:St} (h:b=M):wret (some (.int .i64 b)) 0 (fun r s=>r= .int .i64 M/\s= []) σ:=by subst h;exact wR
theorem zZ3 (T:GTable) (hT:T.cols.length<=maxLen) (e:GExpr) (he:EOk e) (want:Int):Pure prog 217 [.agg T.row,.agg e.row,.int .i64 want] (.int .i64 (zv3 T e want)):=by
 have h:=ys5 T hT e he
 generalize hM:zv3 T e want=M
 unfold zv3 at hM
 generalize zb2 T e=k at h hM
 refine iW 0 func217 ntmps217 results217 fun c hc hb=>zJ ?_
 simp[go_sem]
 refine zM h cB (zO sg (by rw[GExpr.row_eq];rfl)) rfl ?_
 simp[go_sem,wB]
 by_cases q1:k.2=0
 rotate_left
 .have aa:(k.2 !=0)=true:=by simpa using q1
  rw[if_pos q1]at hM
  simp[go_sem,aa]
  exact iret hM
 have aa:(k.2 !=0)=false:=by simpa using q1
 rw[if_neg (fun h=>h q1)]at hM
 simp[go_sem,aa]
 by_cases q2:k.1=want
 .have ab:(k.1 !=want)=false:=by simpa using q2
  rw[if_neg (fun h=>h.1 q2)]at hM
  simp[go_sem,ab]
  exact iret hM
 have ab:(k.1 !=want)=true:=by simpa using q2
 simp[go_sem,ab]
 by_cases q3:k.1=0
 .have ad:(k.1 !=0)=false:=by simpa using q3
  rw[if_neg (fun h=>h.2 q3)]at hM
  simp[go_sem,ad]
  exact iret hM
 .have ad:(k.1 !=0)=true:=by simpa using q3
  rw[if_pos ⟨q2,q3⟩]at hM
  simp[go_sem,ad]
  exact iret hM
def zI5 (T:GTable) (st:GStmt):Int:=if st.filtered=true then zv3 T st.where_ 1 else 0
theorem yM4 (T:GTable) (hT:T.cols.length<=maxLen) (st:GStmt) (hs:SOk st):Pure prog 144 [.agg T.row,.agg st.row] (.int .i64 (zI5 T st)):=by
 have h:=zZ3 T hT st.where_ hs.where_ 1
 generalize hM:zI5 T st=M
 unfold zI5 at hM
 generalize zv3 T st.where_ 1=k at h hM
 refine iW 0 func144 ntmps144 results144 fun c hc hb=>zJ ?_
 simp[go_sem]
 refine(Ab st.filtered).elim (fun w=> ?_) (fun w=> ?_)
 .rw[if_pos w]at hM
  simp[go_sem,w]
  refine zM h cB (zO sg (by rw[GExpr.row_eq];rfl)) rfl ?_
  simp[go_sem]
  exact iret hM
 .rw[if_neg (by rw[w];decide)]at hM
  simp[go_sem,w]
  exact iret hM
def yo7 (T:GTable) (x:GItem):Int:=if x.kind=2 then(zb2 T x.e).2 else if x.kind=4 then zv3 T x.e 2 else 0
def zp0 (T:GTable):List GItem->Int
 | []=>0
 |x::l=>if yo7 T x≠0 then yo7 T x else zp0 T l
def zw2 (l:List GItem):Bool:=l.any fun x=>x.kind==2
def zs5 (l:List GItem):Bool:=l.any fun x=>x.kind==3||x.kind==4
def endC (T:GTable) (st:GStmt):Int:=if st.order.isEmpty=true then 0 else if colF T st.order<0 then 14 else if zs5 st.items=true then 9 else 0
def zY7 (T:GTable) (st:GStmt):Int:=
 if zp0 T st.items≠0 then zp0 T st.items else if(zw2 st.items&&zs5 st.items)=true then 9 else if zI5 T st≠0 then zI5 T st else endC T st
theorem xo6 (T:GTable) (hT:T.cols.length<=maxLen) (st:GStmt) (hs:SOk st):Pure prog 141 [.agg T.row,.agg st.row] (.int .i64 (zY7 T st)):=by
 obtain⟨L,hL⟩:=eX st.items
 obtain⟨an,ai⟩:=hs.items
 rw[hL]at an ai
 have ah:=yM4 T hT st hs
 have af:=ym0 T st.order hT
 rw[show ze8 (fun c:GCol=>c.name==st.order) T.cols 0=colF T st.order from rfl]at af
 generalize hM:zY7 T st=M
 unfold zY7 endC at hM
 rw[hL]at hM
 refine iV 0 func141 ntmps141 results141 fun c hc hb=> ?_
 refine zP (zA ?_)
 simp[go_sem]
 refine zP (zA ?_)
 simp[go_sem]
 refine zf5 (S:=Unit) [2,3,5,6] (fun _=> [.ptr 0 0,.ptr 1 0,.bool (zw2 L),.bool (zs5 L)]) (fun _=> [.box T.row,.box st.row]) (fun _=>zp0 T L=0) hc hb ?_ ?_
 .refine zP (zA ?_)
  simp[go_sem,hL]
  refine zj0 ?_
  refine zI (S:=Nat×Bool×Bool) [2,3,5,6,12,13,14] (fun u=> [.ptr 0 0,.ptr 1 0,.bool u.2.1,.bool u.2.2,.sl .ro (L.map GItem.row),.int .i64 L.length,.int .i64 (u.1:Int)]) (fun _=> [.box T.row,.box st.row]) (fun u=>L.length - u.1)
   (fun u=>u.1<=L.length/\(u.2.1||zw2 (L.drop u.1))=zw2 L/\(u.2.2||zs5 (L.drop u.1))=zs5 L/\zp0 T (L.drop u.1)=zp0 T L) hc hb (0,false,false) ⟨A7 _,sm,sm,sm⟩ ?_ ?_
  .exact at_n 2 (by simp[go_sem,hL]) rfl (by simp[ltOb,ltC,ltK,GTable.row,GStmt.row]) (A7 _) (zF sg rfl)
  rintro⟨i,pl,wh⟩ ⟨hi,hp,hw,hinv⟩
  simp only at hi hp hw hinv
  by_cases q:i<L.length
  rotate_left
  .rw[Ad om]at hp hw hinv
   have hp:pl=zw2 L:=by rw[<-hp];exact(Bool.or_false _).symm
   have hw:wh=zs5 L:=by rw[<-hw];exact(Bool.or_false _).symm
   refine zA ?_
   simp[go_sem,q]
   exact zH () ⟨hinv.symm,aM 2 (by simp[ltOb,ltC,ltK]) (zF (by simp[go_sem,hp,hw]) rfl)⟩
  have ei:=zS q om
  obtain⟨x,hx⟩:=eX (L[i])
  have hE:=(ai x (hx▸Ac q)).2
  rw[Aa q,hx]at hp hw hinv
  unfold zw2 at hp
  unfold zs5 at hw
  rw[List.any_cons]at hp hw
  rw[zp0]at hinv
  have bad:yo7 T x≠0->yo7 T x=M:=fun h=>by
   rw[if_pos h]at hinv
   rw[<-hM,<-hinv,if_pos h]
  have good:yo7 T x=0->zp0 T (L.drop (i+1))=zp0 T L:=fun h=>by
   rw[if_neg (fun g=>g h)]at hinv
   exact hinv
  clear hinv
  unfold yo7 at bad good
  have aj:=ys5 T hT x.e hE
  have ak:=zZ3 T hT x.e hE 2
  generalize zb2 T x.e=ty at aj bad good
  generalize zv3 T x.e 2=kc at ak bad good
  have go: ∀(a b:Bool) (e σ),(a||zw2 (L.drop (i+1)))=zw2 L->(b||zs5 (L.drop (i+1)))=zs5 L->zp0 T (L.drop (i+1))=zp0 T L->At 0 [2,3,5,6,12,13,14] [.ptr 0 0,.ptr 1 0,.bool a,.bool b,.sl .ro (L.map GItem.row),.int .i64 L.length,.int .i64 ((i+1:Nat):Int)] [.box T.row,.box st.row] e σ->
   Vx.Next (fun s':Nat×Bool×Bool=>L.length - s'.1<L.length - i/\(s'.1<=L.length/\(s'.2.1||zw2 (L.drop s'.1))=zw2 L/\(s'.2.2||zs5 (L.drop s'.1))=zs5 L/\zp0 T (L.drop s'.1)=zp0 T L)/\At 0 [2,3,5,6,12,13,14] [.ptr 0 0,.ptr 1 0,.bool s'.2.1,.bool s'.2.2,.sl .ro (L.map GItem.row),.int .i64 L.length,.int .i64 (s'.1:Int)] [.box T.row,.box st.row] e σ) fx:=fun a b e σ h1 h2 h3 h4=>
    zH (i+1,a,b) ⟨by simp only;omega,⟨by simp only;omega,h1,h2,h3⟩,h4⟩
  refine zA ?_
  simp[go_sem,q,hx]
  by_cases k2:x.kind=2
  .have ab:(x.kind==2)=true:=by simpa using k2
   rw[if_pos k2]at bad good
   have ao:(x.kind==3||x.kind==4)=false:=by rw[k2];rfl
   simp only[ab,Dr,En]at hp
   simp only[ao,Ce]at hw
   simp[go_sem,ab]
   refine zM aj cB (zO sg (by rw[GExpr.row_eq];rfl)) rfl ?_
   by_cases qe:ty.2=0
   .have aa:(ty.2 !=0)=false:=by simpa using qe
    simp[go_sem,wB,aa,ei]
    exact go true wh _ _ (by rw[Dr];exact hp) hw (good qe) (aN 2 (by simp[ltOb,ltC,ltK,GTable.row,GStmt.row]))
   .have aa:(ty.2 !=0)=true:=by simpa using qe
    simp[go_sem,wB,aa]
    exact iret (bad qe)
  rw[if_neg k2]at bad good
  have ab:(x.kind==2)=false:=by simpa using k2
  simp only[ab,Ce]at hp
  by_cases k4:x.kind=4
  .have ae:(x.kind==4)=true:=by simpa using k4
   rw[if_pos k4]at bad good
   simp only[ae,Dr,En]at hw
   simp[go_sem,ab,ae]
   refine zM ak cB (zO sg (by rw[GExpr.row_eq];rfl)) rfl ?_
   by_cases qe:kc=0
   .have aa:(kc !=0)=false:=by simpa using qe
    simp[go_sem,aa,ei]
    exact go pl true _ _ hp (by rw[Dr];exact hw) (good qe) (aN 2 (by simp[ltOb,ltC,ltK,GTable.row,GStmt.row]))
   .have aa:(kc !=0)=true:=by simpa using qe
    simp[go_sem,aa]
    exact iret (bad qe)
  rw[if_neg k4]at bad good
  have ae:(x.kind==4)=false:=by simpa using k4
  by_cases k3:x.kind=3
  .have ag:(x.kind==3)=true:=by simpa using k3
   simp only[ag,Dr,En]at hw
   simp[go_sem,ab,ae,ag,ei]
   exact go pl true _ _ hp (by rw[Dr];exact hw) (good rfl) (aN 2 (by simp[ltOb,ltC,ltK,GTable.row,GStmt.row]))
  .have ag:(x.kind==3)=false:=by simpa using k3
   simp only[ag,ae,Ce]at hw
   simp[go_sem,ab,ae,ag,ei]
   exact go pl wh _ _ hp hw (good rfl) (aN 2 (by simp[ltOb,ltC,ltK,GTable.row,GStmt.row]))
 .rintro _ hI
  rw[if_neg (fun h=>h hI)]at hM
  generalize zw2 L=pl at hM⊢
  generalize zs5 L=wh at hM⊢
  generalize zI5 T st=wc at ah hM
  have al:(st.order== [])=st.order.isEmpty:=by cases st.order<;>rfl
  refine zA ?_
  simp[go_sem]
  refine(Ab (pl&&wh)).elim (fun w=> ?_) (fun w=> ?_)
  .rw[if_pos w]at hM
   have w1:pl=true:=by cases pl<;>simp_all
   have w2:wh=true:=by cases wh<;>simp_all
   simp[go_sem,w1,w2]
   exact iret hM
  rw[if_neg (by rw[w];decide)]at hM
  refine yW (fun w1=> ?_) (fun w1=> ?_)
  .have w2:wh=false:=by cases wh<;>simp_all
   simp[go_sem,w1,w2]
   refine zM ah cB (zO sg rfl) rfl ?_
   by_cases qe:wc=0
   rotate_left
   .have aa:(wc !=0)=true:=by simpa using qe
    rw[if_pos qe]at hM
    simp[go_sem,aa]
    exact iret hM
   have aa:(wc !=0)=false:=by simpa using qe
   rw[if_neg (fun h=>h qe)]at hM
   simp[go_sem,aa,al]
   refine(Ab st.order.isEmpty).elim (fun w3=> ?_) (fun w3=> ?_)
   .rw[if_pos w3]at hM
    simp[go_sem,w3]
    exact iret hM
   rw[if_neg (by rw[w3];decide)]at hM
   simp[go_sem,w3]
   refine zM af cB (zO sg rfl) rfl ?_
   by_cases qc:colF T st.order<0
   .have ad:decide (colF T st.order<0)=true:=decide_eq_true qc
    rw[if_pos qc]at hM
    simp[go_sem,ad]
    exact iret hM
   have ad:decide (colF T st.order<0)=false:=decide_eq_false qc
   rw[if_neg qc]at hM
   simp[go_sem,ad]
   rw[if_neg (by rw[w2];decide)]at hM
   exact iret hM
  .have w1:pl=false:=by simpa using w1
   simp[go_sem,w1]
   refine zM ah cB (zO sg rfl) rfl ?_
   by_cases qe:wc=0
   rotate_left
   .have aa:(wc !=0)=true:=by simpa using qe
    rw[if_pos qe]at hM
    simp[go_sem,aa]
    exact iret hM
   have aa:(wc !=0)=false:=by simpa using qe
   rw[if_neg (fun h=>h qe)]at hM
   simp[go_sem,aa,al]
   refine(Ab st.order.isEmpty).elim (fun w3=> ?_) (fun w3=> ?_)
   .rw[if_pos w3]at hM
    simp[go_sem,w3]
    exact iret hM
   rw[if_neg (by rw[w3];decide)]at hM
   simp[go_sem,w3]
   refine zM af cB (zO sg rfl) rfl ?_
   by_cases qc:colF T st.order<0
   .have ad:decide (colF T st.order<0)=true:=decide_eq_true qc
    rw[if_pos qc]at hM
    simp[go_sem,ad]
    exact iret hM
   have ad:decide (colF T st.order<0)=false:=decide_eq_false qc
   rw[if_neg qc]at hM
   simp[go_sem,ad]
   refine(Ab wh).elim (fun w4=> ?_) (fun w4=> ?_)
   .rw[if_pos w4]at hM
    simp[go_sem,w4]
    exact iret hM
   .rw[if_neg (by rw[w4];decide)]at hM
    simp[go_sem,w4]
    exact iret hM
theorem yC3 (x:Int):Pure prog 188 [.int .i64 x] (.bool false):=by
 refine iW 0 func188 ntmps188 results188 fun c hc hb=>zJ ?_
 simp[go_sem]
 exact wR
def cmpI (x y:Int):Int:=if x<y then -1 else if x>y then 1 else 0
theorem yC2 (x y:Int):Pure prog 119 [.int .i64 x,.int .i64 y] (.int .i64 (cmpI x y)):=by
 generalize hM:cmpI x y=M
 have ret: ∀(r:Int) (σ:St),r=M->wret (some (.int .i64 r)) 0 (fun r s=>r= .int .i64 M/\s= []) σ:=fun r σ h=>by subst h;exact wR
 unfold cmpI at hM
 refine iW 0 func119 ntmps119 results119 fun c hc hb=>zJ ?_
 simp[go_sem]
 refine pC (yC3 x) ?_
 simp[go_sem]
 refine pC (yC3 y) ?_
 simp[go_sem]
 repeat' (first|(refine zR (fun q=> ?_) (fun q=> ?_)<;>simp[go_sem,q]))
 all_goals exact ret _ _ (by rw[<-hM];simp only[decide_eq_true_eq,decide_eq_false_iff_not]at*;(repeat' split)<;>omega)
end Go.Proofs.YtefbicjgbaaieaaGreat
namespace Go.Proofs.YtefbicjgbaaieaaGreat
open Go Go.Vx Go.Proofs.Tryz
set_option maxRecDepth 100000
end Go.Proofs.YtefbicjgbaaieaaGreat
namespace Go.Proofs.YtefbicjgbaaieaaGreat
open Go Go.Vx Go.Proofs.Tryz
set_option maxRecDepth 100000
set_option maxHeartbeats 1000000
end Go.Proofs.YtefbicjgbaaieaaGreat
namespace Go.Proofs.YtefbicjgbaaieaaGreat
open Go Go.Vx R Go.Proofs.Tryz
set_option maxRecDepth 100000
section
variable {b:List V} {rows:List (List V)} {A:List Nat} {τ:St}
end
theorem zr9 (id off s:Nat) (cells:List V) {P:Program} {c:Ctx} {nt:Nat} {e:Env} {σ:St} {Q:QT} {y:Code} (h0:0<s) (hσ:σ[id]? =some (.box cells)) (hc:cells[off]? =some (.sl .full []))
  (hy:wVW P c nt y Q fx fx e (σ.set id (.box (cells.set off (.lsv σ.length s 0 0 0)))++ [.lst [] s])):wVW P c nt y Q fx fx e σ:=by
 intro a w L β hs
 obtain⟨x,h1,h2⟩:=yZ6 hs.mem h0 hσ hc
 exact hy a w L (β++ [x]) ⟨h1,hs.size,hs.defs,fun k=>(hs.env k).mono (Le.refl _ _) h2⟩
def zd9 (name:List UInt8):Int:=ze8 (fun T:GTable=>T.name==name) tabsS 0
theorem ys9: ∀(n:Nat) (q l:List GExpr),(bfs n q l).length<=l.length+n
 |0,_,_=>A6 _
 |n+1,[],l=>by rw[bfs];omega
 |n+1,e::q,l=>by
  rw[bfs]
  split
  .have:=ys9 n (q++e.args) l;omega
  .have:=ys9 n q (l++ [e]);simp at this;omega
theorem ym6 (st:GStmt):(zs7 st).length<=4096:=by
 unfold zs7
 split
 .have:=ys9 4096 [st.where_] [];simpa using this
 .simp
theorem zX3 (name:List UInt8):zd9 name= -1∨zd9 name=0∨zd9 name=1∨zd9 name=2:=by
 have h:=zu8 (fun T:GTable=>T.name==name) tabsS 0
 have hl:tabsS.length=3:=rfl
 rw[hl]at h
 unfold zd9
 omega
theorem yx5 (t:Int) (st:GStmt):(wQ t st).length<=2:=by
 unfold wQ
 split
 .exact yC6 _ _
 .split
  .simp
  .split<;>simp
def VOk (st:GStmt):Prop:= ∀e∈zs7 st,∀name s v,ze0 e name=some (s,v)->v.ok
def tab00:GTable:=⟨[],[],0,0,0,⟨[],[],[],0,0,0⟩⟩
def zS4:List GCol->List GExpr->Int
 |c::cs,e::es=>if zv3 tab00 e c.kind≠0 then zv3 tab00 e c.kind else zS4 cs es
 |_,_=>0
def zU2 (T:GTable) (r:List GExpr):Int:=if r.length≠T.cols.length then 9 else zS4 T.cols r
def yq7 (T:GTable):List (List GExpr)->Int
 | []=>0
 |r::l=>if zU2 T r≠0 then zU2 T r else yq7 T l
theorem xP4 {ρ:Nat->Nat} {g1 g2 g3 g4:Tag}:argS ρ (.agg tab00.row) (.agg [.str [],.sl g1 [],.int .i64 0,.int .i64 0,.int .i64 0,.sl g2 [],.sl g3 [],.sl g4 [],.int .i64 0,.int .i64 0,.int .i64 0]):=
 zu7 ⟨zU rfl,yS,zU rfl,zU rfl,zU rfl,yS,yS,yS,zU rfl,zU rfl,zU rfl,tV⟩
theorem zN8 {ρ:Nat->Nat} (e:GExpr):argS ρ (.agg e.row) (.agg [.int .i64 e.kind,.str e.s,.int .i64 e.v.kind,.int .i64 e.v.n,.str e.v.s,.sl .ro (e.args.map GExpr.row)]):=by rw[GExpr.row_eq];exact zC rfl
theorem st_T (T:GTable) (st:GStmt) (n:Nat):([.box T.row,.box st.row]:St).all (ltOb n)=true:=by simp[ltOb,ltC,ltK,GTable.row,GStmt.row]
theorem xf6 (T:GTable) (_hT:T.cols.length<=1000) (st:GStmt) (hs:SOk st):Pure prog 142 [.agg T.row,.agg st.row] (.int .i64 (yq7 T st.rows)):=by
 obtain⟨R,hR⟩:=eX st.rows
 obtain⟨ai,ag⟩:=hs.rows
 rw[hR]at ai ag
 rw[hR]
 generalize hM:yq7 T R=M
 refine iV 0 func142 ntmps142 results142 fun c hc hb=> ?_
 refine zA ?_
 simp[go_sem,hR]
 refine zI (S:=Nat) [2,3,11,12,13] (fun i=> [.ptr 0 0,.ptr 1 0,.sl .ro (R.map fun r=> [V.sl .ro (r.map GExpr.row)]),.int .i64 R.length,.int .i64 (i:Int)]) (fun _=> [.box T.row,.box st.row]) (fun i=>R.length - i)
  (fun i=>i<=R.length/\yq7 T (R.drop i)=M) hc hb 0 ⟨A7 _,hM⟩ ?_ ?_
 .exact at_n 2 (by simp[go_sem,hR]) rfl (st_T T st 2) (A7 _) (zF sg rfl)
 rintro i ⟨hi,hinv⟩
 by_cases q:i<R.length
 rotate_left
 .rw[Ad om]at hinv
  refine zA ?_
  simp[go_sem,q]
  exact iret hinv
 have ei:=zS q om
 obtain⟨r,hr⟩:=eX (R[i])
 obtain⟨ak,aj⟩:=ag r (hr▸Ac q)
 rw[Aa q,hr,yq7]at hinv
 by_cases q2:r.length=T.cols.length
 rotate_left
 .have ad:((r.length:Int) !=T.cols.length)=true:=by simp;omega
  have ae:zU2 T r=9:=by unfold zU2;rw[if_pos q2]
  rw[ae,if_pos dc]at hinv
  refine zA ?_
  simp[go_sem,q,hr,ad]
  exact iret hinv
 have ad:((r.length:Int) !=T.cols.length)=false:=by simp;omega
 have ae:zU2 T r=zS4 T.cols r:=by unfold zU2;rw[if_neg (fun h=>h q2)]
 rw[ae]at hinv
 obtain⟨C,hC⟩:=eX (zS4 T.cols r)
 rw[hC]at hinv
 refine zA ?_
 simp[go_sem,q,hr,ad]
 refine zI (S:=Nat) [2,3,11,12,13,23,24,25] (fun k=> [.ptr 0 0,.ptr 1 0,.sl .ro (R.map fun r=> [V.sl .ro (r.map GExpr.row)]),.int .i64 R.length,.int .i64 (i:Int),.sl .ro (r.map GExpr.row),.int .i64 r.length,.int .i64 (k:Int)]) (fun _=> [.box T.row,.box st.row]) (fun k=>r.length - k)
  (fun k=>k<=r.length/\zS4 (T.cols.drop k) (r.drop k)=C) hc hb 0 ⟨A7 _,hC⟩ ?_ ?_
 .exact at_n 2 (by simp[go_sem,hR]) rfl (st_T T st 2) (A7 _) (zF sg rfl)
 rintro k ⟨hk,aa⟩
 by_cases qk:k<r.length
 rotate_left
 .rw[Ad om,Ad om]at aa
  have aa:C=0:=aa.symm
  rw[if_neg (fun h=>h aa)]at hinv
  refine zA ?_
  simp[go_sem,qk,ei]
  exact zH (i+1) ⟨om,⟨om,hinv⟩,aN 2 (st_T T st 2)⟩
 have ek:=zS qk om
 have qc:k<T.cols.length:=om
 obtain⟨e,he⟩:=eX (r[k])
 obtain⟨c1,ah⟩:=eX (T.cols[k])
 have hE:=aj e (he▸Ac qk)
 rw[Aa qk,Aa qc,he,ah,zS4]at aa
 have ab:=zZ3 tab00 dc e hE c1.kind
 generalize zv3 tab00 e c1.kind=kc at ab aa
 refine zA ?_
 simp[go_sem,qk,he]
 refine zc3 [(8,0)] 3 sm kR kR ?_
 simp[go_sem,qc,ah]
 refine zi1 ab cB (fun _=>⟨xP4,zN8 e,zC rfl,tV⟩) rfl ?_
 simp[go_sem]
 by_cases qe:kc=0
 .have af:(kc !=0)=false:=by simpa using qe
  rw[if_neg (fun h=>h qe)]at aa
  simp[go_sem,af,ek]
  exact zH (k+1) ⟨om,⟨om,aa⟩,aN 2 (st_T T st 2)⟩
 .have af:(kc !=0)=true:=by simpa using qe
  rw[if_pos qe]at aa
  rw[if_pos (by rw[<-aa];exact qe)]at hinv
  simp[go_sem,af]
  exact iret (aa.trans hinv)
def zr3 (T:GTable):List GAssign->List GAssign->Int
 |_,[]=>0
 |p,x::l=>
  if colF T x.name<0 then 14
  else if colF T x.name=T.key∨(colF T x.name=0/\T.place=0)then 18
  else if(p.any fun y=>y.name==x.name)=true then 9
  else if zv3 T x.e (colK T (colF T x.name))≠0 then zv3 T x.e (colK T (colF T x.name))
  else zr3 T (p++ [x]) l
theorem st_x (x:GAssign):ltOb 0 (.box x.row)=true:=by simp[ltOb,ltC,ltK,GAssign.row]
theorem yS0 (x y:GAssign):VCalls prog 219 [.agg y.row,.ptr 0 0] [.box x.row] (fun r σ=>r= .bool (y.name==x.name)/\σ= [.box x.row]):=by
 refine iW 1 func219 ntmps219 results219 fun c hc hb=>zJ ?_
 simp[go_sem]
 exact xF 1 rfl rfl (by simp[ltOb,ltC,ltK]) (A6 _) (zC rfl) ⟨rfl,rfl⟩
theorem xR4 (x:GAssign) (l:List GAssign) (hl:l.length<=12):VCalls prog 278 [.sl .ro (l.map GAssign.row),.fn 219 [.ptr 0 0]] [.box x.row] (fun r σ=>r= .int .i64 (zc1 (fun y=>y.name==x.name) l 0)/\σ= [.box x.row]):=by
 generalize hM:zc1 (fun y:GAssign=>y.name==x.name) l 0=M
 have ret: ∀(r:Int) (σ:St),r=M->wret (some (.int .i64 r)) 1 (fun r s=>r= .int .i64 M/\s= [.box x.row]) (.box x.row::σ):=fun r σ h=>by subst h;exact xF 1 rfl rfl (by simp[ltOb,ltC,ltK,GAssign.row]) (A6 _) (zC rfl) ⟨rfl,rfl⟩
 refine iV 1 func278 ntmps278 results278 fun c hc hb=> ?_
 refine zA ?_
 simp[go_sem]
 refine zI (S:=Nat) [0,1,6,7,8] (fun i=> [.sl .ro (l.map GAssign.row),.fn 219 [.ptr 0 0],.sl .ro (l.map GAssign.row),.int .i64 l.length,.int .i64 (i:Int)]) (fun _=> [.box x.row]) (fun i=>l.length - i)
  (fun i=>i<=l.length/\zc1 (fun y=>y.name==x.name) (l.drop i) i=M) hc hb 0 ⟨A7 _,hM⟩ ?_ ?_
 .exact aN 1 (by simp[ltOb,ltC,ltK,GAssign.row])
 rintro i ⟨hi,hinv⟩
 by_cases q:i<l.length
 rotate_left
 .rw[Ad om]at hinv
  refine zA ?_
  simp[go_sem,q]
  exact ret _ _ hinv
 have ei:=zS q om
 obtain⟨y,hy⟩:=eX (l[i])
 rw[Aa q,hy,zc1]at hinv
 have aa:=yS0 x y
 generalize (y.name==x.name)=b at aa hinv
 refine zA ?_
 simp[go_sem,q,hy]
 refine zm2 0 aa cB rfl (st_x x) ⟨zC rfl,.inl rfl,tV⟩ (fun r σ h=>⟨_,h.2,st_x x⟩) ?_
 rintro r o2 ⟨rfl,h2⟩
 obtain rfl:o2= .box x.row:=by simpa using h2
 refine(Ab b).elim (fun p=> ?_) (fun p=> ?_)
 .rw[if_pos p]at hinv
  simp[go_sem,p]
  exact ret _ _ hinv
 .rw[if_neg (by rw[p];decide)]at hinv
  simp[go_sem,p,ei]
  exact zH (i+1) ⟨om,⟨om,hinv⟩,aN 1 (by simp[ltOb,ltC,ltK])⟩
theorem xQ9 (x:GAssign) (l:List GAssign) (hl:l.length<=12):VCalls prog 218 [.sl .ro (l.map GAssign.row),.fn 219 [.ptr 0 0]] [.box x.row] (fun r σ=>r= .bool (l.any fun y=>y.name==x.name)/\σ= [.box x.row]):=by
 have h:=xR4 x l hl
 have hg:=zA5 (fun y:GAssign=>y.name==x.name) l 0
 rw[<-hg]
 generalize zc1 (fun y:GAssign=>y.name==x.name) l 0=n at h⊢
 refine iW 1 func218 ntmps218 results218 fun c hc hb=>zJ ?_
 simp[go_sem]
 refine zm2 0 h cB rfl (st_x x) ⟨zC rfl,.inl (by simp[renS,renA,renC,renK,ren]),tV⟩ (fun r σ h=>⟨_,h.2,st_x x⟩) ?_
 rintro r o2 ⟨rfl,h2⟩
 obtain rfl:o2= .box x.row:=by simpa using h2
 simp[go_sem]
 exact xF 1 rfl rfl (by simp[ltOb,ltC,ltK]) (A6 _) (zC rfl) ⟨rfl,rfl⟩
end Go.Proofs.YtefbicjgbaaieaaGreat
