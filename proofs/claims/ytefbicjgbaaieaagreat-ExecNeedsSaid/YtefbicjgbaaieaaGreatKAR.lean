/-
  Contracts of functions that the claimed statement reaches, each proved over trees (the library Vx); used by the theorem at the end of the claim.
  Conditions: as each theorem states them.
-/
import Derived.Test.YtefbicjgbaaieaaGreatKAL
import Derived.Test.YtefbicjgbaaieaaGreatKAQ
import Derived.Test.YtefbicjgbaaieaaGreatKAP
set_option maxHeartbeats 8000000
namespace Go.Proofs.YtefbicjgbaaieaaGreat
open Go Go.Vx Go.Proofs.Tryz
set_option maxRecDepth 100000
theorem yh1 (c:UInt8):Pure prog 268 [.int .u8 c.toNat] (.bool (wJ c)):=by
 unfold wJ
 generalize c.toNat=n
 generalize hM:decide (48<=n/\n<=57)=M
 have ret: ∀(r:Bool) (σ:St),r=M->wret (some (.bool r)) 0 (fun r s=>r= .bool M/\s= []) σ:=fun r σ h=>by subst h;exact wR
 refine iW 0 func268 ntmps268 results268 fun c hc hb=>zL ?_
 simp[go_sem]
 refine xE (fun q=> ?_) (fun q=> ?_)
 .simp[go_sem,q]
  refine ret _ _ ?_
  rw[<-hM]
  simp at q
  exact decide_eq_decide.2 om
 .simp[go_sem,q]
  refine ret _ _ ?_
  rw[<-hM]
  simp at q
  exact(decide_eq_false om).symm
theorem yV4: ∀n:Fin 256,za3 (UInt8.ofNat n.1)=(((decide (97<=ze2 .or .u8 (n.1:Nat) 32)&&decide (ze2 .or .u8 (n.1:Nat) 32<=122))&&decide (65<=((n.1:Nat):Int)))||(((n.1:Nat):Int)==95)):=by decide+kernel
theorem yL5 (c:UInt8):Pure prog 338 [.int .u8 c.toNat] (.bool (za3 c)):=by
 have h:=yV4 ⟨c.toNat,c.toNat_lt⟩
 simp only[UInt8.ofNat_toNat]at h
 rw[h]
 clear h
 obtain⟨n,hn⟩:=eX c.toNat
 simp only[hn]
 generalize hg:ze2 .or .u8 (n:Nat) 32=g
 refine iW 0 func338 ntmps338 results338 fun c hc hb=>zL ?_
 simp[go_sem,hg]
 refine(A9 (decide (97<=g))).elim (fun q1=> ?_) (fun q1=> ?_)
 .refine(A9 (decide (g<=122))).elim (fun q2=> ?_) (fun q2=> ?_)
  .refine(A9 (decide (65<=(n:Int)))).elim (fun q3=> ?_) (fun q3=> ?_)
   .rw[q1,q2,q3]
    simp[go_sem,hg,q2,q3]
    exact wR
   .rw[q1,q2,q3]
    simp[go_sem,hg,q2,q3]
    exact wR
  .rw[q1,q2]
   simp[go_sem,hg,q2]
   exact wR
 .rw[q1]
  simp[go_sem]
  exact wR
def zo3 (c:UInt8):Bool:=za3 c||wJ c
theorem yV6 (c:UInt8):Pure prog 270 [.int .u8 c.toNat] (.bool (zo3 c)):=by
 have h1:=yL5 c
 have h2:=yh1 c
 unfold zo3
 generalize za3 c=a at h1⊢
 generalize wJ c=b at h2⊢
 refine iW 0 func270 ntmps270 results270 fun c hc hb=>zL ?_
 simp[go_sem]
 refine pC h1 ?_
 simp[go_sem]
 refine(A9 a).elim (fun q=> ?_) (fun q=> ?_)
 .simp[go_sem,q]
  exact wG (zC rfl) ⟨sm,rfl⟩
 .simp[go_sem,q]
  refine pC h2 ?_
  simp[go_sem]
  exact wG (zC rfl) ⟨by simp[q],rfl⟩
def runF (p:UInt8->Bool):List UInt8->Nat
 | []=>0
 |c::l=>if p c=true then runF p l+1 else 0
theorem xB4 (s:List UInt8) (hl:s.length<=maxLen):Pure prog 269 [.str s,.fn 270 []] (.int .i64 (runF zo3 s:Nat)):=by
 generalize hM:runF zo3 s=M
 have ret: ∀(r:Nat) (σ:St),r=M->wret (some (.int .i64 r)) 0 (fun r s=>r= .int .i64 (M:Nat)/\s= []) σ:=fun r σ h=>by subst h;exact wR
 refine iV 0 func269 ntmps269 results269 fun c hc hb=> ?_
 refine zA ?_
 simp[go_sem]
 refine zH (S:=Nat) [0,1,5] (fun i=> [.str s,.fn 270 [],.int .i64 i]) (fun _=> []) (fun i=>s.length - i) (fun i=>i<=s.length/\i+runF zo3 (s.drop i)=M) hc hb 0 ⟨A4 _,by rw[Bg,Ad,hM]⟩ ?_ ?_
 .exact aO
 rintro i ⟨hi,hinv⟩
 by_cases q:i<s.length
 rotate_left
 .rw[Bq om,runF,D1]at hinv
  refine zA ?_
  simp[go_sem,q]
  exact ret _ _ hinv
 have ei:=zQ q (by unfold maxLen at hl;omega)
 obtain⟨x,hx⟩:=eX (s[i])
 rw[A8 q,hx,runF]at hinv
 have aa:=yV6 x
 obtain⟨b,ab⟩:=eX (zo3 x)
 rw[ab]at aa hinv
 refine zA ?_
 simp[go_sem,q,hx]
 refine pC aa ?_
 simp[go_sem]
 refine(A9 b).elim (fun w=> ?_) (fun w=> ?_)
 .rw[if_pos w]at hinv
  simp[go_sem,w,ei]
  exact zG (i+1) ⟨om,⟨q,om⟩,aO⟩
 .rw[if_neg (by rw[w];decide)]at hinv
  simp[go_sem,w]
  exact ret _ _ om
theorem yP7 (p:UInt8->Bool): ∀s:List UInt8,decide (runF p s<s.length)= !(s.all p)
 | []=>by simp[runF]
 |c::l=>by
  have h:=yP7 p l
  unfold runF
  by_cases q:p c=true
  .rw[if_pos q,Ar,q,B5,<-h]
   exact decide_eq_decide.2 sm
  .rw[if_neg q]
   have q:p c=false:=by simpa using q
   simp[q]
def spW:List UInt8->List (List UInt8)
 | []=> []
 |c::l=>if c=32/\32∈l then l.takeWhile (· !=32)::spW l else spW l
theorem xE6: ∀(s l:List UInt8),(∀c∈s,c≠32)->((s++ [32]).isPrefixOf l=true↔l.takeWhile (· !=32)=s/\32∈l)
 | [],[],_=>by simp
 | [],c::l,_=>by
  by_cases h:c=32
  .subst h;simp
  .have h':(c !=32)=true:=by simpa using h
   have h2: ¬(32=c):=fun e=>h e.symm
   simp[List.isPrefixOf,h',h2]
 |a::s,[],_=>by simp
 |a::s,c::l,hs=>by
  have ih:=xE6 s l fun x hx=>hs x (by simp[hx])
  have ha:a≠32:=hs a sm
  rw[Bz,List.isPrefixOf,A6,ih]
  by_cases h:c=32
  .subst h
   rw[List.takeWhile_cons_of_neg sm]
   constructor
   .rintro⟨h1,_⟩;exact absurd (by simpa using h1) ha
   .rintro⟨h1,_⟩;cases h1
  .have h':(c !=32)=true:=by simpa using h
   rw[Dy (by simpa using h),Ae]
   constructor
   .rintro⟨h1,h2,h3⟩
    have h1:a=c:=by simpa using h1
    exact⟨by rw[h1,h2],.inr h3⟩
   .rintro⟨h1,h2⟩
    obtain⟨h3,h4⟩:=List.cons.inj h1
    exact⟨by simp[h3],h4,h2.resolve_left fun e=>h e.symm⟩
theorem yK5 (s:List UInt8) (hs: ∀c∈s,c≠32): ∀T:List UInt8,0<=Lib.index T (32::(s++ [32]))↔s∈spW T
 | []=>by simp[Lib.index,spW]
 |b::l=>by
  have ih:=yK5 s hs l
  have hg:=Lib.index_ge l (32::(s++ [32]))
  have hp:=xE6 s l hs
  unfold Lib.index spW
  by_cases h:(32::(s++ [32])).isPrefixOf (b::l)=true
  .rw[if_pos h]
   rw[List.isPrefixOf,A6,hp]at h
   have hb:b=32:=(eq_of_beq h.1).symm
   rw[if_pos ⟨hb,h.2.2⟩,h.2.1]
   exact⟨fun _=>Au,fun _=>Int.le_refl 0⟩
  .rw[if_neg h]
   rw[List.isPrefixOf,A6,hp]at h
   have aa:s∈(if b=32/\32∈l then l.takeWhile (· !=32)::spW l else spW l)↔s∈spW l:=by
    split
    .rename_i hc
     rw[Ae]
     constructor
     .rintro(e|e)
      .exact absurd ⟨by rw[hc.1];exact beq_self_eq_true _,e.symm,hc.2⟩ h
      .exact e
     .exact .inr
    .exact Iff.rfl
   rw[aa,<-ih]
   split
   .rename_i e
    rw[eq_of_beq e]
   .rename_i e
    have e: ¬Lib.index l (32::(s++ [32]))= -1:=fun q=>e (by rw[q];rfl)
    omega
def yP1:List UInt8:= [32,65,76,76,32,65,78,68,32,65,83,32,65,83,67,32,66,69,84,87,69,69,78,32,66,79,85,78,68,32,66,89,32,67,79,85,78,84,32,68,69,76,69,84,69,32,68,69,83,67,32,69,88,65,67,84,32,70,65,76,83,69,32,70,82,79,77,32,73,78,83,69,82,84,32,73,78,84,79,32,73,83,32,76,73,77,73,84,32,78,79,84,32,78,85,76,76,32,78,79,87,32,79,70,32,79,82,32,79,82,68,69,82,32,83,69,76,69,67,84,32,83,69,84,32,83,85,77,32,83,89,83,84,69,77,32,84,73,77,69,32,84,82,85,69,32,85,80,68,65,84,69,32,86,65,76,85,69,83,32,87,72,69,82,69,32]
theorem yP2:spW yP1=resv:=by decide+kernel
theorem xF5 (s:List UInt8) (hs: ∀c∈s,c≠32):Lib.contains yP1 (32::(s++ [32]))=resv.contains s:=by
 have h:=yK5 s hs yP1
 rw[yP2]at h
 unfold Lib.contains
 rw[D4,decide_eq_true_eq,h]
 simp
theorem ym3 (s sub:List UInt8) (hs:s.length<4294967281):Pure prog 272 [.str s,.str sub] (.bool (Lib.contains s sub)):=by
 intro w L β aa hm ha
 match aa,ha with
 | [a,b],⟨h1,h2,_⟩=>
  have e1:=wV h1
  have e2:=wV h2
  subst e1 e2
  obtain⟨_,m,hc⟩:=hm.tab.num (vints.headD (0,.i64)) dC
  refine(Tryz.strings_Contains _ _ m w (by rw[zu0];exact hs) hc).mono ?_
  rintro e w' ⟨rfl,rfl⟩
  exact⟨_,.bool _,L,[],β,rfl,⟨rfl,rfl⟩,A5 _,hm,RdP.bool _⟩
def upI:List UInt8->Nat->List UInt8
 | [],_=> []
 |c::l,0=>c::l
 |c::l,i+1=>yL c::upI l i
theorem xj9: ∀(s:List UInt8) (i:Nat),(upI s i).length=s.length
 | [],_=>rfl
 |_::_,0=>rfl
 |c::l,i+1=>by rw[upI,Ag,xj9 l i,Ag]
theorem xI3: ∀s:List UInt8,upI s 0=s
 | []=>rfl
 |_::_=>rfl
theorem xj7: ∀s:List UInt8,upI s s.length=s.map yL
 | []=>rfl
 |c::l=>by rw[Ag,upI,xj7 l,Aj]
theorem xj8: ∀(s:List UInt8) (i:Nat),(upI s i)[i]? =s[i]?
 | [],_=>rfl
 |_::_,0=>rfl
 |c::l,i+1=>by rw[upI,Cz,Cz,xj8 l i]
theorem xk0: ∀(s:List UInt8) (i:Nat) (h:i<s.length),(upI s i).set i (yL s[i])=upI s (i+1)
 | [],_,h=>absurd h (Bc _)
 |c::l,0,_=>by rw[upI,upI,xI3];rfl
 |c::l,i+1,h=>by
  rw[upI,Cg,List.getElem_cons_succ,xk0 l i (by simpa using h),upI]
theorem yR3: ∀(s:List UInt8) (i:Nat) (h:i<s.length),yL s[i]=s[i]->upI s i=upI s (i+1)
 | [],_,h,_=>absurd h (Bc _)
 |c::l,0,_,hg=>by rw[upI,upI,xI3];rw[List.getElem_cons_zero]at hg;rw[hg]
 |c::l,i+1,h,hg=>by
  rw[upI,upI,yR3 l i (by simpa using h) (by simpa using hg)]
abbrev bRw:UInt8->List V:=fun c=> [V.int .u8 c.toNat]
theorem zY2 (s:List UInt8):zP s=s.map bRw:=rfl
theorem xZ0 (l:List UInt8) (n:Nat):ltOb n (.lst (l.map bRw) 1)=true:=by
 simp only[ltOb,Af]
 intro r hr
 obtain⟨x,_,rfl⟩:=Ac.1 hr
 intro y hy
 cases hy with
 |head=>rfl
 |tail _ h=>cases h
theorem yx4 (l:List UInt8):([Ob.lst (l.map bRw) 1]:St).all (ltOb 1)=true:=by
 simp only[Ar,xZ0,Ch,Bool.and_self]
theorem xu3 (l:List UInt8):xM (l.map bRw)=true:=by
 simp only[xM,Af]
 intro r hr
 obtain⟨x,_,rfl⟩:=Ac.1 hr
 intro y hy
 cases hy with
 |head=>rfl
 |tail _ h=>cases h
theorem xl2 (l:List UInt8) (n:Nat) (h:l.length=n):za7 (l.map bRw) 0 n=l.map bRw:=by
 unfold za7
 rw[Bg,Al (by simp;omega),Bk]
 rfl
theorem yV5 (s:List UInt8) (hl:s.length<=maxLen):Pure prog 271 [.str s] (.str (s.map yL)):=by
 obtain⟨n,hn⟩:=eX s.length
 unfold maxLen at hl
 refine iV 0 func271 ntmps271 results271 fun c hc hb=> ?_
 refine zr9 7 dC ?_
 refine zA ?_
 simp[go_sem,zY2,hn]
 refine zH (S:=Nat) [3,8,9,10] (fun i=> [.lsv 0 1 n 0 n,.lsv 0 1 n 0 n,.int .i64 n,.int .i64 i]) (fun i=> [.lst ((upI s i).map bRw) 1]) (fun i=>n - i) (fun i=>i<=n) hc hb 0 (A4 _) ?_ ?_
 .exact at_n 1 (by simp[go_sem,xI3]) rfl (yx4 _) (A4 _) (zF sg rfl)
 intro i hi
 by_cases q:i<n
 rotate_left
 .have ak:i=n:=om
  subst ak
  rw[<-hn,xj7,hn]
  have ag:=xl2 (s.map yL) i (by rw[B1,hn])
  have ae:=zj4 (s.map yL)
  have af:=wS (s.map yL)
  rw[zY2]at ae af
  generalize hS:s.map yL=S at ag ae af⊢
  have al:S.length=i:=by rw[<-hS,B1,hn]
  clear hS
  refine zo2 0 1 (S.map bRw) rfl (xu3 _) ?_
  refine zA ?_
  simp[go_sem,al,ag]
  refine zI af ?_
  simp[go_sem]
  rw[<-Bk,ae]
  exact wR
 have hq:i<s.length:=om
 have ei:=zQ q om
 obtain⟨x,hx⟩:=eX (s[i])
 obtain⟨cur,aa⟩: ∃c,upI s i=c:=⟨_,rfl⟩
 obtain⟨ah,ab⟩: ∃c,upI s (i+1)=c:=⟨_,rfl⟩
 have ai:cur.length=n:=by rw[<-aa,xj9,hn]
 have an:i<cur.length:=om
 have ao:cur[i]=x:=by
  have h:=xj8 s i
  rw[aa,A0 an,A0 hq,hx]at h
  exact Option.some.inj h
 have aj:cur.set i (yL x)=ah:=by rw[<-aa,<-hx,xk0 s i hq,ab]
 have ad:yL x=x->cur=ah:=fun h=>by rw[<-aa,<-ab];exact yR3 s i hq (by rw[hx];exact h)
 rw[aa]
 have ar:0<=((x.toNat:Nat):Int)/\((x.toNat:Nat):Int)<=255:=by have:=x.toNat_lt;omega
 refine zA ?_
 simp[go_sem,q,ao,ai]
 have small: ¬(97<=x.toNat/\x.toNat<=122)->yL x=x:=fun h=>by unfold yL;rw[if_neg h]
 refine xE (fun q1=> ?_) (fun q1=> ?_)
 .simp[go_sem,q1]
  refine zR (fun q2=> ?_) (fun q2=> ?_)
  .have q1:97<=x.toNat:=by simp at q1;omega
   have q2:x.toNat<=122:=by simp at q2;omega
   have hg:IntKind.u8.wrap ((x.toNat:Int) - 32)=((yL x).toNat:Int):=by
    rw[yE4 om om]
    unfold yL
    rw[if_pos ⟨q1,q2⟩,UInt8.toNat_ofNat']
    omega
   simp[go_sem,hg,q,ai,ei]
   exact zG (i+1) ⟨om,om,at_n 1 (by rw[ab,<-aj];simp[go_sem,E8]) rfl (yx4 _) (A4 _) (zF sg rfl)⟩
  .have q2: ¬x.toNat<=122:=by simp at q2;omega
   have hs:=ad (small fun h=>q2 h.2)
   simp[go_sem,ei]
   exact zG (i+1) ⟨om,om,at_n 1 (by rw[ab,<-hs];simp[go_sem]) rfl (yx4 _) (A4 _) (zF sg rfl)⟩
 .have q1: ¬97<=x.toNat:=by simp at q1;omega
  have hs:=ad (small fun h=>q1 h.1)
  have aq:decide ((97:Int)<=x.toNat)=false:=by simp;omega
  simp[go_sem,ei,aq]
  exact zG (i+1) ⟨om,om,at_n 1 (by rw[ab,<-hs];simp[go_sem]) rfl (yx4 _) (A4 _) (zF sg rfl)⟩
theorem xm4 (s:List UInt8):(s.map yL==s)=s.all fun c=>yL c==c:=by
 induction s with
 |nil=>rfl
 |cons c l ih=>
  rw[Aj,Ar,<-ih]
  rfl
theorem xK0 (s:List UInt8):zl0 s=(decide (1<=s.length/\s.length<=16)&&(!wJ (s.headD 0)&&(s.all zo3&&(s.all (fun c=>yL c==c)&& !resv.contains s)))):=by
 have h:s.all okC=(s.all zo3&&s.all (fun c=>yL c==c)):=by
  induction s with
  |nil=>rfl
  |cons c l ih=>
   rw[Ar,Ar,Ar,ih]
   unfold okC zo3
   cases za3 c<;>cases wJ c<;>cases (yL c==c)<;>simp
 unfold zl0
 rw[h,Bool.and_assoc]
theorem xK1:zo3 32=false:=dC
theorem zL8 (s:List UInt8) (hl:s.length<=maxLen):Pure prog 211 [.str s] (.bool (zl0 s)):=by
 have ad:=xB4 s hl
 have aa:=yP7 zo3 s
 have ag:=yV5 s hl
 have ab:=xm4 s
 have ah:=yh1 (s[0]?.getD 0)
 have ai:s.headD 0=s[0]?.getD 0:=by cases s<;>rfl
 have ae:(s.all zo3)=true->Pure prog 272 [.str yP1,.str (32::(s++ [32]))] (.bool (resv.contains s)):=fun h=>by
  have h1: ∀c∈s,c≠32:=fun c hc e=>by
   rw[Af]at h
   have:=h c hc
   rw[e,xK1]at this
   cases this
  have h2:=ym3 yP1 (32::(s++ [32])) dC
  rw[xF5 s h1]at h2
  exact h2
 generalize hM:zl0 s=M
 rw[xK0,ai]at hM
 generalize runF zo3 s=r at ad aa
 generalize s.map yL=u at ag ab
 generalize wJ (s[0]?.getD 0)=d at ah hM
 generalize (s.all fun c=>yL c==c)=g at ab hM
 generalize resv.contains s=k at ae hM
 generalize s.all zo3=w at aa ae hM
 have ret: ∀(b:Bool) (σ:St),b=M->wret (some (.bool b)) 0 (fun r s=>r= .bool M/\s= []) σ:=fun r σ h=>by subst h;exact wR
 unfold maxLen at hl
 refine iV 0 func211 ntmps211 results211 fun c hc hb=> ?_
 refine zA ?_
 simp[go_sem]
 by_cases h0:s= []
 .subst h0
  have hM:M=false:=by rw[<-hM];rfl
  simp[go_sem]
  exact ret _ _ hM.symm
 have h1:1<=s.length:=by
  cases s with
  |nil=>exact absurd rfl h0
  |cons _ _=>simp
 have aj:s.isEmpty=false:=by
  cases s with
  |nil=>exact absurd rfl h0
  |cons _ _=>rfl
 simp[go_sem,aj]
 by_cases h2:16<s.length
 .have af:decide ((16:Int)<s.length)=true:=by simp;omega
  have hM:M=false:=by rw[<-hM,decide_eq_false om];rfl
  simp[go_sem,af]
  exact ret _ _ hM.symm
 have af:decide ((16:Int)<s.length)=false:=by simp;omega
 rw[decide_eq_true (show 1<=s.length/\s.length<=16 by omega),B5]at hM
 simp[go_sem,af]
 refine zI om ?_
 simp[go_sem]
 refine pC ah ?_
 simp[go_sem]
 refine(A9 d).elim (fun q=> ?_) (fun q=> ?_)
 .have hM:M=false:=by rw[<-hM,q];rfl
  simp[go_sem,q]
  exact ret _ _ hM.symm
 rw[q,Bool.not_false,B5]at hM
 simp[go_sem,q]
 refine pC ad ?_
 simp[go_sem]
 refine(A9 w).elim (fun q2=> ?_) (fun q2=> ?_)
 rotate_left
 .have hM:M=false:=by rw[<-hM,q2];rfl
  have hr:decide (r<s.length)=true:=by rw[aa,q2];rfl
  simp[go_sem,hr]
  exact ret _ _ hM.symm
 have hr:decide (r<s.length)=false:=by rw[aa,q2];rfl
 rw[q2,B5]at hM
 simp[go_sem,hr]
 refine pC ag ?_
 simp[go_sem]
 refine(A9 g).elim (fun q3=> ?_) (fun q3=> ?_)
 rotate_left
 .have hM:M=false:=by rw[<-hM,q3];rfl
  have hu:(u==s)=false:=by rw[ab,q3]
  simp[go_sem,hu]
  exact ret _ _ hM.symm
 have hu:(u==s)=true:=by rw[ab,q3]
 rw[q3,B5]at hM
 simp[go_sem,hu]
 refine zI om ?_
 simp[go_sem]
 refine zI om ?_
 simp[go_sem]
 refine pC (ae q2) ?_
 simp[go_sem]
 exact ret _ _ hM
end Go.Proofs.YtefbicjgbaaieaaGreat
namespace Go.Proofs.YtefbicjgbaaieaaGreat
open Go Go.Vx R Go.Proofs.Tryz
set_option maxRecDepth 100000
def zJ8 (s:List UInt8):Int:=if zF8 s=0 then -1 else zF8 s
theorem yZ8 (s:List UInt8):Pure prog 273 [.str s] (.int .i64 (zJ8 s)):=by
 have hM:zJ8 s=if opsOne.contains s=true then 1 else if opsTwo.contains s=true then 2 else -1:=by
  unfold zJ8 zF8
  by_cases h1:opsTwo.contains s=true
  .have h2:opsOne.contains s=false:=by
    unfold opsTwo at h1
    simp only[E2,List.contains_nil,Bool.or_false,Bv,beq_iff_eq]at h1
    rcases h1 with rfl|rfl|rfl|rfl|rfl|rfl|rfl|rfl|rfl|rfl|rfl|rfl|rfl<;>decide
   simp only[h1,h2]
   rfl
  .have h1:opsTwo.contains s=false:=by simpa using h1
   by_cases h2:opsOne.contains s=true
   .simp only[h1,h2];rfl
   .have h2:opsOne.contains s=false:=by simpa using h2
    simp only[h1,h2];rfl
 generalize zJ8 s=M at hM⊢
 have ret: ∀(r:Int) (σ:St),r=M->wret (some (.int .i64 r)) 0 (fun r s=>r= .int .i64 M/\s= []) σ:=fun r σ h=>by subst h;exact wR
 unfold opsTwo opsOne at hM
 simp only[E2,List.contains_nil]at hM
 refine iW 0 func273 ntmps273 results273 fun c hc hb=>zL ?_
 simp[go_sem]
 repeat' (first|(refine xE (fun q=> ?_) (fun q=> ?_)<;>simp[go_sem,q])|(refine zR (fun q=> ?_) (fun q=> ?_)<;>simp[go_sem,q]))
 all_goals exact ret _ _ (by simp_all)
def zz6 (e:GExpr):Bool:=e.kind==0&&(e.s.isEmpty&&(zs0 e.v&&e.args.isEmpty))
theorem xx4 (l:List GExpr) (hl:l.length<=maxLen):Pure prog 340 [.sl .ro (l.map GExpr.row),.sl .ro [],.fn 274 []] (.bool l.isEmpty):=by
 generalize hM:l.isEmpty=M
 have ret: ∀(r:Bool) (σ:St),r=M->wret (some (.bool r)) 0 (fun r s=>r= .bool M/\s= []) σ:=fun r σ h=>by subst h;exact wR
 refine iW 0 func340 ntmps340 results340 fun c hc hb=>zL ?_
 cases l with
 |nil=>
  simp[go_sem]
  refine zH (S:=Unit) [15,16,17] (fun _=> [.sl .ro [],.int .i64 0,.int .i64 0]) (fun _=> []) (fun _=>0) (fun _=>True) hc hb () trivial ?_ ?_
  .exact aO
  rintro _ _
  refine zA ?_
  simp[go_sem]
  exact ret _ _ hM
 |cons x l=>
  have q:(((x::l).length:Int) !=0)=true:=by simp;omega
  simp only[Ag,Int.natCast_add,Cr]at q
  simp[go_sem,q]
  exact ret _ _ hM
theorem xS2 (e:GExpr) (hw:e.args.length<=maxLen):Pure prog 274 [.agg e.row,.agg zeroE.row] (.bool (zz6 e)):=by
 have heq:=xx4 e.args hw
 generalize hM:zz6 e=M
 unfold zz6 zs0 at hM
 generalize e.args.isEmpty=b at heq hM
 have ret: ∀(r:Bool) (σ:St),r=M->wret (some (.bool r)) 0 (fun r s=>r= .bool M/\s= []) σ:=fun r σ h=>by subst h;exact wR
 have aa:(e.s== [])=e.s.isEmpty:=by cases e.s<;>rfl
 have ab:(e.v.s== [])=e.v.s.isEmpty:=by cases e.v.s<;>rfl
 have z1:zeroE.kind=0:=rfl
 have z2:zeroE.s= []:=rfl
 have z3:zeroE.v=⟨0,0,[]⟩:=rfl
 have z4:zeroE.args= []:=rfl
 refine iW 0 func274 ntmps274 results274 fun c hc hb=>zL ?_
 simp[go_sem,z1,z2,z3,z4]
 repeat' (first
  |(refine xE (fun q=> ?_) (fun q=> ?_)<;>simp[go_sem,q])
  |(refine zR (fun q=> ?_) (fun q=> ?_)<;>simp[go_sem,q])
  |(refine pC heq ?_;simp[go_sem]))
 all_goals exact ret _ _ (by rw[<-hM];simp_all)
theorem xb9 (e:GExpr) (hw:e.args.length<=maxLen):Pure prog 213 [.agg e.row] (.bool (zz6 e)):=by
 have h:=xS2 e hw
 generalize zz6 e=b at h⊢
 refine iW 0 func213 ntmps213 results213 fun c hc hb=>zL ?_
 simp[go_sem]
 refine zJ h cB ⟨?_, ?_,tV⟩ rfl ?_
 .rw[GExpr.row_eq];exact zC rfl
 .rw[GExpr.row_eq]
  exact zm7 ⟨zT rfl,zT rfl,zT rfl,zT rfl,zT rfl,yJ,tV⟩
 simp[go_sem]
 exact wR
def mayE:Nat->GExpr->Bool
 |0,_=>false
 |n+1,e=>
  if e.kind=1 then e.s.isEmpty&&(e.args.isEmpty&&(mayF e.v&&decide (0<=e.v.n)))
  else if e.kind=2 then zs0 e.v&&(e.args.isEmpty&&zl0 e.s)
  else if ¬e.kind=3∨zs0 e.v=false∨zF8 e.s=0∨ ¬(e.args.length:Int)=zF8 e.s then false
  else e.args.all (mayE n)
theorem zG7 {α:Type} (p:α->Bool) (l:List α) (i:Nat) (h:i<l.length):(l.drop i).all p=(p l[i]&&(l.drop (i+1)).all p):=by
 rw[A8 h,Ar]
theorem zB4: ∀(n:Nat) (e:GExpr),n<=1000->Wide e->Good e->Pure prog 212 [.agg e.row,.int .i64 n] (.bool (mayE n e))
 |n,e,hn,hw,hg=>by
  have hlen:=hw.len
  have ak:=hw.sub
  have an:=hg.sub
  have ih: ∀m,n=m+1-> ∀x∈e.args,Pure prog 212 [.agg x.row,.int .i64 m] (.bool (mayE m x)):=fun m hm x hx=>zB4 m x om (ak x hx) (an x hx)
  have ag:=yp6 e.v
  have aa:=zL8 e.s (by have:=hg.str;unfold maxLen;omega)
  have ao:=yZ8 e.s
  have hz:=yw8 e.v
  obtain⟨M,hM⟩:=eX (mayE n e)
  rw[hM]
  have ret: ∀(r:Bool) (σ:St),r=M->wret (some (.bool r)) 0 (fun r s=>r= .bool M/\s= []) σ:=fun r σ h=>by subst h;exact wR
  have ha:((e.args.length:Int)==0)=e.args.isEmpty:=by cases e.args<;>simp;omega
  have ar:(e.s== [])=e.s.isEmpty:=by cases e.s<;>rfl
  have au:(e.v.s== [])=e.v.s.isEmpty:=by cases e.v.s<;>rfl
  refine iV 0 func212 ntmps212 results212 fun c hc hb=> ?_
  by_cases h0:n=0
  .subst h0
   rw[mayE]at hM
   refine zA ?_
   simp[go_sem]
   exact ret _ _ hM
  obtain⟨m,rfl⟩: ∃m,n=m+1:=⟨n - 1,om⟩
  have ih:=ih m rfl
  rw[mayE]at hM
  have al:(((m+1:Nat):Int)==0)=false:=by simp;omega
  have em:IntKind.i64.wrap (((m+1:Nat):Int) - 1)=(m:Int):=by rw[i64_id om om];omega
  have aq:IntKind.i64.wrap (m:Int)=(m:Int):=i64_id om om
  refine zA ?_
  simp only[Int.natCast_add,Cr]at al em
  simp[go_sem,al]
  by_cases q1:e.kind=1
  .have af:(e.kind==1)=true:=by simpa using q1
   rw[if_pos q1]at hM
   generalize mayF e.v=b at ag hM
   generalize e.args.isEmpty=ae at ha hM
   simp[go_sem,af]
   repeat' (first
    |(refine xE (fun q=> ?_) (fun q=> ?_)<;>simp[go_sem,q,ha])
    |(refine zJ ag cB (zN sg rfl) rfl ?_;simp[go_sem]))
   all_goals exact ret _ _ (by rw[<-hM];simp_all)
  rw[if_neg q1]at hM
  have af:(e.kind==1)=false:=by simpa using q1
  by_cases q2:e.kind=2
  .have ah:(e.kind==2)=true:=by simpa using q2
   rw[if_pos q2]at hM
   unfold zs0 at hM
   generalize zl0 e.s=b at aa hM
   generalize e.args.isEmpty=ae at ha hM
   simp[go_sem,af,ah]
   repeat' (first
    |(refine xE (fun q=> ?_) (fun q=> ?_)<;>simp[go_sem,q,ha])
    |(refine zJ aa cB (zN sg rfl) rfl ?_;simp[go_sem]))
   all_goals exact ret _ _ (by rw[<-hM];simp_all)
  rw[if_neg q2]at hM
  have ah:(e.kind==2)=false:=by simpa using q2
  simp[go_sem,af,ah]
  refine wQ [(15,0)] 1 sm kR kR ?_
  simp[go_sem]
  by_cases q3:e.kind=3
  rotate_left
  .have ai:(e.kind !=3)=true:=by simpa using q3
   rw[if_pos (.inl q3)]at hM
   simp[go_sem,ai]
   exact ret _ _ hM
  have ai:(e.kind !=3)=false:=by simpa using q3
  simp[go_sem,ai,hz]
  refine(A9 (zs0 e.v)).elim (fun w=> ?_) (fun w=> ?_)
  rotate_left
  .rw[if_pos (.inr (.inl w))]at hM
   simp[go_sem,w]
   exact ret _ _ hM
  simp[go_sem,w]
  refine zh8 ao cB (fun _=>zN sg rfl) rfl ?_
  unfold zJ8
  by_cases q4:zF8 e.s=0∨ ¬(e.args.length:Int)=zF8 e.s
  .have aj:((e.args.length:Int) !=(if zF8 e.s=0 then -1 else zF8 e.s))=true:=by
    rcases q4 with q4|q4
    .rw[if_pos q4];simp<;>omega
    .by_cases q5:zF8 e.s=0
     .rw[if_pos q5];simp<;>omega
     .rw[if_neg q5];simpa using q4
   rw[if_pos (.inr (.inr q4))]at hM
   simp[go_sem,aj]
   exact ret _ _ hM
  have aj:((e.args.length:Int) !=(if zF8 e.s=0 then -1 else zF8 e.s))=false:=by
   rw[if_neg (fun h=>q4 (.inl h))]
   simp only[bne_eq_false_iff_eq]
   exact Eg fun h=>q4 (.inr h)
  rw[if_neg (fun h=>h.elim (fun h=>h q3) fun h=>h.elim (fun h=>by rw[w]at h;cases h) q4)]at hM
  simp[go_sem,aj]
  obtain⟨args,ab⟩:=eX e.args
  rw[ab]at hM hlen ih
  simp[go_sem,ab]
  refine zH (S:=Nat) [1,73,74,75] (fun i=> [.int .i64 ((m:Int)+1),.sl .ro (args.map GExpr.row),.int .i64 args.length,.int .i64 (i:Int)]) (fun _=> []) (fun i=>args.length - i)
   (fun i=>i<=args.length/\(args.drop i).all (mayE m)=M) hc hb 0 ⟨A4 _,by rw[Bg];exact hM⟩ ?_ ?_
  .exact aO
  rintro i ⟨hi,hinv⟩
  by_cases q:i<args.length
  rotate_left
  .rw[Ab om]at hinv
   refine zA ?_
   simp[go_sem,q]
   exact ret _ _ hinv
  have ei:=zQ q om
  rw[zG7 _ _ _ q]at hinv
  obtain⟨x,hx⟩:=eX (args[i])
  have ad:=ih x (hx▸Aa q)
  rw[hx]at hinv
  generalize mayE m x=b at ad hinv
  refine zA ?_
  simp[go_sem,q,hx,aq]
  refine zJ ad cB (zN sg (by rw[GExpr.row_eq];rfl)) rfl ?_
  refine(A9 b).elim (fun p=> ?_) (fun p=> ?_)
  .rw[p,B5]at hinv
   simp[go_sem,p,ei]
   exact zG (i+1) ⟨om,⟨om,hinv⟩,aO⟩
  .rw[p,Eh]at hinv
   simp[go_sem,p]
   exact ret _ _ hinv
def mayI (n:Nat) (x:GItem):Bool:=if x.kind=1 then decide (n<=1)&&zz6 x.e else if x.kind=3 then zz6 x.e else if x.kind=2∨x.kind=4 then mayE 16 x.e else false
def yM3 (l:List GItem):Bool:=l.all (mayI l.length)&&(decide (1<=l.length)&&decide (l.length<=6))
def mayR (r:List GExpr):Bool:=(decide (1<=r.length)&&decide (r.length<=6))&&r.all (mayE 16)
def yM4 (l:List (List GExpr)):Bool:=l.all mayR&&(decide (1<=l.length)&&decide (l.length<=16))
def mayA (x:GAssign):Bool:=zl0 x.name&&mayE 16 x.e
def yM1 (l:List GAssign):Bool:=(decide (1<=l.length)&&decide (l.length<=6))&&l.all mayA
theorem bret {b M:Bool} {σ:St} (h:b=M):wret (some (.bool b)) 0 (fun r s=>r= .bool M/\s= []) σ:=by subst h;exact wR
theorem yW0 (l:List GItem) (hl:l.length<=12) (hx: ∀x∈l,i64R x.kind/\EOk x.e):Pure prog 214 [.sl .ro (l.map GItem.row)] (.bool (yM3 l)):=by
 obtain⟨n,hn⟩:=eX l.length
 generalize hM:yM3 l=M
 unfold yM3 at hM
 rw[hn]at hM
 have e1:decide ((1:Int)<=n)=decide (1<=n):=decide_eq_decide.2 om
 have e2:decide ((n:Int)<=6)=decide (n<=6):=decide_eq_decide.2 om
 have e3:decide ((1:Int)<n)= !decide (n<=1):=by
  by_cases h:n<=1
  .rw[decide_eq_true h,decide_eq_false om];rfl
  .rw[decide_eq_false h,decide_eq_true om];rfl
 refine iV 0 func214 ntmps214 results214 fun c hc hb=> ?_
 refine zA ?_
 simp[go_sem]
 refine zH (S:=Nat) [0,5,6,7] (fun i=> [.sl .ro (l.map GItem.row),.sl .ro (l.map GItem.row),.int .i64 n,.int .i64 (i:Int)]) (fun _=> []) (fun i=>n - i)
  (fun i=>i<=n/\((l.drop i).all (mayI n)&&(decide (1<=n)&&decide (n<=6)))=M) hc hb 0 ⟨A4 _,by rw[Bg];exact hM⟩ ?_ ?_
 .exact at_0 rfl (zN (by simp[go_sem,hn]) rfl)
 rintro i ⟨hi,hinv⟩
 by_cases q:i<n
 rotate_left
 .rw[Ab om,Ch,B5]at hinv
  refine zA ?_
  simp[go_sem,q,hn,e1]
  refine xE (fun w=> ?_) (fun w=> ?_)
  .simp[go_sem,w,hn,e2]
   exact bret (by rw[<-hinv,w,B5])
  .simp[go_sem,w]
   exact bret (by rw[<-hinv,w];rfl)
 have hq:i<l.length:=om
 have ei:=zQ q om
 rw[zG7 _ _ _ hq]at hinv
 obtain⟨x,ag⟩:=eX (l[i])
 obtain⟨hk,hE⟩:=hx x (ag▸Aa hq)
 have ah:=xb9 x.e (by have:=hE.wide.len;unfold maxLen;omega)
 have ae:=zB4 16 x.e dC hE.wide hE.good
 rw[ag]at hinv
 obtain⟨b,aa⟩:=eX (mayI n x)
 rw[aa]at hinv
 unfold mayI at aa
 have yes:b=true->((l.drop (i+1)).all (mayI n)&&(decide (1<=n)&&decide (n<=6)))=M:=fun h=>by rw[h,B5]at hinv;exact hinv
 have no:b=false->false=M:=fun h=>by rw[h]at hinv;exact hinv
 clear hinv
 generalize zz6 x.e=bl at ah aa
 generalize mayE 16 x.e=me at ae aa
 simp only[Cr]at ae
 refine zA ?_
 simp[go_sem,q,hq,ag]
 by_cases k1:x.kind=1
 .have ab:(x.kind==1)=true:=by simpa using k1
  rw[if_pos k1]at aa
  simp[go_sem,ab,hn,e3]
  refine xE (fun w=> ?_) (fun w=> ?_)
  .have w2:decide (n<=1)=true:=by simpa using w
   rw[w2,B5]at aa
   simp[go_sem,w2]
   refine zJ ah cB (zN sg (by rw[GExpr.row_eq];rfl)) rfl ?_
   simp[go_sem]
   refine(A9 bl).elim (fun w=> ?_) (fun w=> ?_)
   .simp[go_sem,w,ei]
    exact zG (i+1) ⟨om,⟨om,yes (by rw[<-aa,w])⟩,aO⟩
   .simp[go_sem,w]
    exact bret (no (by rw[<-aa,w]))
  .have w2:decide (n<=1)=false:=by simpa using w
   rw[w2,Eh]at aa
   simp[go_sem,w2]
   exact bret (no aa.symm)
 rw[if_neg k1]at aa
 have ab:(x.kind==1)=false:=by simpa using k1
 by_cases k3:x.kind=3
 .have ad:(x.kind==3)=true:=by simpa using k3
  rw[if_pos k3]at aa
  simp[go_sem,ab,ad]
  refine zJ ah cB (zN sg (by rw[GExpr.row_eq];rfl)) rfl ?_
  simp[go_sem]
  refine(A9 bl).elim (fun w=> ?_) (fun w=> ?_)
  .simp[go_sem,w,ei]
   exact zG (i+1) ⟨om,⟨om,yes (by rw[<-aa,w])⟩,aO⟩
  .simp[go_sem,w]
   exact bret (no (by rw[<-aa,w]))
 rw[if_neg k3]at aa
 have ad:(x.kind==3)=false:=by simpa using k3
 by_cases k2:x.kind=2
 .have af:(x.kind==2)=true:=by simpa using k2
  rw[if_pos (.inl k2)]at aa
  simp[go_sem,ab,ad,af]
  refine zJ ae cB (zN sg (by rw[GExpr.row_eq];rfl)) rfl ?_
  simp[go_sem]
  refine(A9 me).elim (fun w=> ?_) (fun w=> ?_)
  .simp[go_sem,w,ei]
   exact zG (i+1) ⟨om,⟨om,yes (by rw[<-aa,w])⟩,aO⟩
  .simp[go_sem,w]
   exact bret (no (by rw[<-aa,w]))
 have af:(x.kind==2)=false:=by simpa using k2
 by_cases k4:x.kind=4
 .have ai:(x.kind==4)=true:=by simpa using k4
  rw[if_pos (.inr k4)]at aa
  simp[go_sem,ab,ad,af,ai]
  refine zJ ae cB (zN sg (by rw[GExpr.row_eq];rfl)) rfl ?_
  simp[go_sem]
  refine(A9 me).elim (fun w=> ?_) (fun w=> ?_)
  .simp[go_sem,w,ei]
   exact zG (i+1) ⟨om,⟨om,yes (by rw[<-aa,w])⟩,aO⟩
  .simp[go_sem,w]
   exact bret (no (by rw[<-aa,w]))
 have ai:(x.kind==4)=false:=by simpa using k4
 rw[if_neg (fun h=>h.elim k2 k4)]at aa
 simp[go_sem,ab,ad,af,ai]
 exact bret (no aa.symm)
def zb6 {α:Type} (p:α->Bool):List α->Nat->Int
 | [],_=> -1
 |x::l,i=>if p x=true then(i:Int)else zb6 p l (i+1)
theorem zA8 {α:Type} (p:α->Bool): ∀(l:List α) (i:Nat),decide (0<=zb6 p l i)=l.any p
 | [],i=>rfl
 |x::l,i=>by
  rw[zb6,List.any_cons]
  split
  .rename_i h;rw[h];exact decide_eq_true om
  .rename_i h
   have h:p x=false:=by simpa using h
   rw[h,Cb,zA8 p l (i+1)]
theorem xZ2 (x:GExpr) (hE:EOk x):Pure prog 276 [.agg x.row] (.bool (!mayE 16 x)):=by
 have aa:=zB4 16 x dC hE.wide hE.good
 generalize mayE 16 x=b at aa⊢
 simp only[Cr]at aa
 refine iW 0 func276 ntmps276 results276 fun c hc hb=>zL ?_
 simp[go_sem]
 refine zJ aa cB (zN sg (by rw[GExpr.row_eq];rfl)) rfl ?_
 simp[go_sem]
 exact wR
theorem xZ1 (x:GAssign) (hn:x.name.length<=maxLen) (hE:EOk x.e):Pure prog 277 [.agg x.row] (.bool (!mayA x)):=by
 have aa:=zB4 16 x.e dC hE.wide hE.good
 have hw:=zL8 x.name hn
 generalize hM:(!mayA x)=M
 unfold mayA at hM
 generalize mayE 16 x.e=b at aa hM
 generalize zl0 x.name=w at hw hM
 simp only[Cr]at aa
 refine iW 0 func277 ntmps277 results277 fun c hc hb=>zL ?_
 simp[go_sem]
 refine zJ hw cB (zN sg rfl) rfl ?_
 refine(A9 w).elim (fun p=> ?_) (fun p=> ?_)
 .simp[go_sem,p]
  refine zJ aa cB (zN sg (by rw[GExpr.row_eq];rfl)) rfl ?_
  simp[go_sem]
  exact bret (by rw[<-hM,p,B5])
 .simp[go_sem,p]
  exact bret (by rw[<-hM,p];rfl)
theorem wa7 (l:List GExpr) (hl:l.length<=12) (hx: ∀x∈l,EOk x):Pure prog 341 [.sl .ro (l.map GExpr.row),.fn 276 []] (.int .i64 (zb6 (fun x=> !mayE 16 x) l 0)):=by
 generalize hM:zb6 (fun x=> !mayE 16 x) l 0=M
 have ret: ∀(r:Int) (σ:St),r=M->wret (some (.int .i64 r)) 0 (fun r s=>r= .int .i64 M/\s= []) σ:=fun r σ h=>by subst h;exact wR
 refine iV 0 func341 ntmps341 results341 fun c hc hb=> ?_
 refine zA ?_
 simp[go_sem]
 refine zH (S:=Nat) [0,1,6,7,8] (fun i=> [.sl .ro (l.map GExpr.row),.fn 276 [],.sl .ro (l.map GExpr.row),.int .i64 l.length,.int .i64 (i:Int)]) (fun _=> []) (fun i=>l.length - i)
  (fun i=>i<=l.length/\zb6 (fun x=> !mayE 16 x) (l.drop i) i=M) hc hb 0 ⟨A4 _,hM⟩ ?_ ?_
 .exact aO
 rintro i ⟨hi,hinv⟩
 by_cases q:i<l.length
 rotate_left
 .rw[Ab om]at hinv
  refine zA ?_
  simp[go_sem,q]
  exact ret _ _ hinv
 have ei:=zQ q om
 obtain⟨x,ab⟩:=eX (l[i])
 rw[A8 q,ab,zb6]at hinv
 have aa:=xZ2 x (hx x (ab▸Aa q))
 generalize (!mayE 16 x)=b at aa hinv
 refine zA ?_
 simp[go_sem,q,ab]
 refine zJ aa cB (zN sg (by rw[GExpr.row_eq];rfl)) rfl ?_
 refine(A9 b).elim (fun p=> ?_) (fun p=> ?_)
 .rw[if_pos p]at hinv
  simp[go_sem,p]
  exact ret _ _ hinv
 .rw[if_neg (by rw[p];decide)]at hinv
  simp[go_sem,p,ei]
  exact zG (i+1) ⟨om,⟨om,hinv⟩,aO⟩
theorem wa2 (l:List GExpr) (hl:l.length<=12) (hx: ∀x∈l,EOk x):Pure prog 275 [.sl .ro (l.map GExpr.row),.fn 276 []] (.bool (!l.all (mayE 16))):=by
 have h:=wa7 l hl hx
 have hg:=zA8 (fun x=> !mayE 16 x) l 0
 have ha:l.any (fun x=> !mayE 16 x)= !l.all (mayE 16):=by rw[List.all_eq_not_any_not,Bool.not_not]
 rw[ha]at hg
 rw[<-hg]
 generalize zb6 (fun x=> !mayE 16 x) l 0=n at h⊢
 refine iW 0 func275 ntmps275 results275 fun c hc hb=>zL ?_
 simp[go_sem]
 refine zJ h cB (zN sg rfl) rfl ?_
 simp[go_sem]
 exact wR
theorem wa4 (l:List GAssign) (hl:l.length<=12) (hx: ∀x∈l,x.name.length<=1048576/\EOk x.e):Pure prog 278 [.sl .ro (l.map GAssign.row),.fn 277 []] (.int .i64 (zb6 (fun x=> !mayA x) l 0)):=by
 generalize hM:zb6 (fun x=> !mayA x) l 0=M
 have ret: ∀(r:Int) (σ:St),r=M->wret (some (.int .i64 r)) 0 (fun r s=>r= .int .i64 M/\s= []) σ:=fun r σ h=>by subst h;exact wR
 refine iV 0 func278 ntmps278 results278 fun c hc hb=> ?_
 refine zA ?_
 simp[go_sem]
 refine zH (S:=Nat) [0,1,6,7,8] (fun i=> [.sl .ro (l.map GAssign.row),.fn 277 [],.sl .ro (l.map GAssign.row),.int .i64 l.length,.int .i64 (i:Int)]) (fun _=> []) (fun i=>l.length - i)
  (fun i=>i<=l.length/\zb6 (fun x=> !mayA x) (l.drop i) i=M) hc hb 0 ⟨A4 _,hM⟩ ?_ ?_
 .exact aO
 rintro i ⟨hi,hinv⟩
 by_cases q:i<l.length
 rotate_left
 .rw[Ab om]at hinv
  refine zA ?_
  simp[go_sem,q]
  exact ret _ _ hinv
 have ei:=zQ q om
 obtain⟨x,ab⟩:=eX (l[i])
 rw[A8 q,ab,zb6]at hinv
 obtain⟨ae,ad⟩:=hx x (ab▸Aa q)
 have aa:=xZ1 x (by unfold maxLen;omega) ad
 generalize (!mayA x)=b at aa hinv
 refine zA ?_
 simp[go_sem,q,ab]
 refine zJ aa cB (zN sg rfl) rfl ?_
 refine(A9 b).elim (fun p=> ?_) (fun p=> ?_)
 .rw[if_pos p]at hinv
  simp[go_sem,p]
  exact ret _ _ hinv
 .rw[if_neg (by rw[p];decide)]at hinv
  simp[go_sem,p,ei]
  exact zG (i+1) ⟨om,⟨om,hinv⟩,aO⟩
theorem wa0 (l:List GAssign) (hl:l.length<=12) (hx: ∀x∈l,x.name.length<=1048576/\EOk x.e):Pure prog 218 [.sl .ro (l.map GAssign.row),.fn 277 []] (.bool (!l.all mayA)):=by
 have h:=wa4 l hl hx
 have hg:=zA8 (fun x=> !mayA x) l 0
 have ha:l.any (fun x=> !mayA x)= !l.all mayA:=by rw[List.all_eq_not_any_not,Bool.not_not]
 rw[ha]at hg
 rw[<-hg]
 generalize zb6 (fun x=> !mayA x) l 0=n at h⊢
 refine iW 0 func218 ntmps218 results218 fun c hc hb=>zL ?_
 simp[go_sem]
 refine zJ h cB (zN sg rfl) rfl ?_
 simp[go_sem]
 exact wR
theorem dec1 (n:Nat):decide ((1:Int)<=n)=decide (1<=n):=decide_eq_decide.2 om
theorem xW2 (n k:Nat):decide ((n:Int)<=k)=decide (n<=k):=decide_eq_decide.2 om
theorem xo3 (l:List (List GExpr)) (hl:l.length<=20) (hx: ∀r∈l,r.length<=12/\ ∀e∈r,EOk e):Pure prog 215 [.sl .ro (l.map fun r=> [V.sl .ro (r.map GExpr.row)])] (.bool (yM4 l)):=by
 obtain⟨n,hn⟩:=eX l.length
 generalize hM:yM4 l=M
 unfold yM4 at hM
 rw[hn]at hM
 have e1:=dec1 n
 have e2:decide ((n:Int)<=16)=decide (n<=16):=xW2 n 16
 refine iV 0 func215 ntmps215 results215 fun c hc hb=> ?_
 refine zA ?_
 simp[go_sem]
 refine zH (S:=Nat) [0,5,6,7] (fun i=> [.sl .ro (l.map fun r=> [V.sl .ro (r.map GExpr.row)]),.sl .ro (l.map fun r=> [V.sl .ro (r.map GExpr.row)]),.int .i64 n,.int .i64 (i:Int)]) (fun _=> []) (fun i=>n - i)
  (fun i=>i<=n/\((l.drop i).all mayR&&(decide (1<=n)&&decide (n<=16)))=M) hc hb 0 ⟨A4 _,by rw[Bg];exact hM⟩ ?_ ?_
 .exact at_0 rfl (zN (by simp[go_sem,hn]) rfl)
 rintro i ⟨hi,hinv⟩
 by_cases q:i<n
 rotate_left
 .rw[Ab om,Ch,B5]at hinv
  refine zA ?_
  simp[go_sem,q,hn,e1]
  refine xE (fun w=> ?_) (fun w=> ?_)
  .simp[go_sem,w,hn,e2]
   exact bret (by rw[<-hinv,w,B5])
  .simp[go_sem,w]
   exact bret (by rw[<-hinv,w];rfl)
 have hq:i<l.length:=om
 have ei:=zQ q om
 rw[zG7 _ _ _ hq]at hinv
 obtain⟨r,hr⟩:=eX (l[i])
 obtain⟨af,ag⟩:=hx r (hr▸Aa hq)
 have ab:=wa2 r af ag
 rw[hr]at hinv
 obtain⟨b,aa⟩:=eX (mayR r)
 rw[aa]at hinv
 unfold mayR at aa
 have yes:b=true->((l.drop (i+1)).all mayR&&(decide (1<=n)&&decide (n<=16)))=M:=fun h=>by rw[h,B5]at hinv;exact hinv
 have no:b=false->false=M:=fun h=>by rw[h]at hinv;exact hinv
 clear hinv
 generalize r.all (mayE 16)=ra at ab aa
 have ad:((r.length:Int)==0)= !decide (1<=r.length):=by
  cases r with
  |nil=>rfl
  |cons _ _=>rw[decide_eq_true sm];simp;omega
 have ae:decide ((6:Int)<r.length)= !decide (r.length<=6):=by
  by_cases h:r.length<=6
  .rw[decide_eq_true h,decide_eq_false om];rfl
  .rw[decide_eq_false h,decide_eq_true om];rfl
 generalize decide (1<=r.length)=d1 at ad aa
 generalize decide (r.length<=6)=d2 at ae aa
 refine zA ?_
 simp[go_sem,q,hq,hr,ad]
 refine(A9 d1).elim (fun w=> ?_) (fun w=> ?_)
 rotate_left
 .simp[go_sem,w]
  exact bret (no (by rw[<-aa,w];rfl))
 simp[go_sem,w,ae]
 refine(A9 d2).elim (fun w2=> ?_) (fun w2=> ?_)
 rotate_left
 .simp[go_sem,w2]
  exact bret (no (by rw[<-aa,w,w2];rfl))
 simp[go_sem,w2]
 refine zJ ab cB (zN sg rfl) rfl ?_
 simp[go_sem]
 refine(A9 ra).elim (fun w3=> ?_) (fun w3=> ?_)
 .simp[go_sem,w3,ei]
  exact zG (i+1) ⟨om,⟨om,yes (by rw[<-aa,w,w2,w3];rfl)⟩,aO⟩
 .simp[go_sem,w3]
  exact bret (no (by rw[<-aa,w,w2,w3];rfl))
theorem xo4 (l:List GAssign) (hl:l.length<=12) (hx: ∀x∈l,x.name.length<=1048576/\EOk x.e):Pure prog 216 [.sl .ro (l.map GAssign.row)] (.bool (yM1 l)):=by
 have aa:=wa0 l hl hx
 generalize hM:yM1 l=M
 unfold yM1 at hM
 generalize l.all mayA=a at aa hM
 obtain⟨n,hn⟩:=eX l.length
 rw[hn]at hM
 have e1:=dec1 n
 have e2:decide ((n:Int)<=6)=decide (n<=6):=xW2 n 6
 refine iW 0 func216 ntmps216 results216 fun c hc hb=>zL ?_
 simp[go_sem,hn,e1]
 refine xE (fun w=> ?_) (fun w=> ?_)
 rotate_left
 .simp[go_sem,w]
  exact bret (by rw[<-hM,w];rfl)
 simp[go_sem,w,hn,e2]
 refine xE (fun w2=> ?_) (fun w2=> ?_)
 rotate_left
 .simp[go_sem,w2]
  exact bret (by rw[<-hM,w,w2];rfl)
 simp[go_sem,w2]
 refine zJ aa cB (zN sg rfl) rfl ?_
 simp[go_sem]
 exact bret (by rw[<-hM,w,w2];rfl)
def xG2 (st:GStmt):Bool:=
 !((!(st.kind==1)&&(!st.items.isEmpty||(!st.order.isEmpty||(st.down|| !(st.limit==0)))))||((!(st.kind==2)&& !st.rows.isEmpty)||(!(st.kind==3)&& !st.sets.isEmpty)))
def xW8 (st:GStmt):Bool:=zl0 st.table&&(if st.filtered=true then mayE 16 st.where_ else zz6 st.where_)
def xu8 (st:GStmt):Bool:=
 if st.kind=1 then yM3 st.items&&(((st.order.isEmpty&& !st.down)||zl0 st.order)&&decide (-1<=st.limit))
 else if st.kind=2 then yM4 st.rows&& !st.filtered
 else if st.kind=3 then yM1 st.sets
 else st.kind==4
def mayS (st:GStmt):Bool:=xW8 st&&(xG2 st&&xu8 st)
theorem zW3 {α:Type} (l:List α):decide (0<l.length)= !l.isEmpty:=by
 cases l with
 |nil=>rfl
 |cons _ _=>exact decide_eq_true (by simp only[Ag];omega)
theorem xo5 (st:GStmt) (hs:SOk st):Pure prog 140 [.agg st.row] (.bool (mayS st)):=by
 have ai:=zL8 st.table (by have:=hs.table;unfold maxLen;omega)
 have aj:=zL8 st.order (by have:=hs.order;unfold maxLen;omega)
 have af:=zB4 16 st.where_ dC hs.where_.wide hs.where_.good
 have ak:=xb9 st.where_ (by have:=hs.where_.wide.len;unfold maxLen;omega)
 have hit:=yW0 st.items hs.items.1 hs.items.2
 have al:=xo3 st.rows hs.rows.1 hs.rows.2
 have an:=xo4 st.sets hs.sets.1 hs.sets.2
 simp only[Cr]at af
 generalize hM:mayS st=M
 unfold mayS xW8 xG2 xu8 at hM
 obtain⟨k,hk⟩:=eX st.kind
 obtain⟨f,hf⟩:=eX st.filtered
 obtain⟨d,hd⟩:=eX st.down
 rw[hk,hf,hd]at hM
 generalize zl0 st.table=wt at ai hM
 generalize zl0 st.order=wo at aj hM
 generalize mayE 16 st.where_=me at af hM
 generalize zz6 st.where_=bl at ak hM
 generalize yM3 st.items=mi at hit hM
 generalize yM4 st.rows=mr at al hM
 generalize yM1 st.sets=ms at an hM
 have ao:=zW3 st.items
 have aq:=zW3 st.rows
 have ar:=zW3 st.sets
 have a1:(st.order != [])= !st.order.isEmpty:=by cases st.order<;>rfl
 have ay:(st.order== [])=st.order.isEmpty:=by cases st.order<;>rfl
 generalize st.items.isEmpty=ie at ao hM
 generalize st.rows.isEmpty=re at aq hM
 generalize st.sets.isEmpty=se at ar hM
 have hz: ∀b:Bool,b=M-> ∀σ:St,wret (some (.bool b)) 0 (fun r s=>r= .bool M/\s= []) σ:=fun b h σ=>bret h
 have ag:((wt&&(if f=true then me else bl))=false->false=M)/\((wt&&(if f=true then me else bl))=true->(!((!(k==1)&&(!ie||(!st.order.isEmpty||(d|| !(st.limit==0)))))||((!(k==2)&& !re)||(!(k==3)&& !se)))&&(if k=1 then mi&&(((st.order.isEmpty&& !d)||wo)&&decide (-1<=st.limit))else if k=2 then mr&& !f else if k=3 then ms else k==4))=M):=by
  constructor
  .intro h;rw[h]at hM;exact hM
  .intro h;rw[h,B5]at hM;exact hM
 obtain⟨ab,ae⟩:=ag
 clear hM
 refine iV 0 func140 ntmps140 results140 fun c hc hb=> ?_
 refine zO (zA ?_)
 simp[go_sem]
 refine ze9 (S:=Unit) [1] (fun _=> [.ptr 0 0]) (fun _=> [.box st.row]) (fun _=>(wt&&(if f=true then me else bl))=true) hc hb ?_ ?_
 .refine zA ?_
  simp[go_sem]
  refine zJ ai cB (zN sg rfl) rfl ?_
  refine(A9 wt).elim (fun w=> ?_) (fun w=> ?_)
  rotate_left
  .simp[go_sem,w]
   exact bret (ab (by rw[w];rfl))
  simp[go_sem,w,hf]
  refine(A9 f).elim (fun w2=> ?_) (fun w2=> ?_)
  .simp[go_sem,w2]
   refine zJ af cB (zN sg (by rw[GExpr.row_eq];rfl)) rfl ?_
   refine(A9 me).elim (fun w3=> ?_) (fun w3=> ?_)
   .simp[go_sem,w3,w2]
    exact zG () ⟨by rw[w,w2,w3];rfl,at_n 1 (by simp[go_sem,hk,hf,hd,w2]) rfl (by simp[ltOb,ltC,ltK]) (A4 _) (zF sg rfl)⟩
   .simp[go_sem,w3]
    exact bret (ab (by rw[w,w2,w3];rfl))
  .simp[go_sem,w2]
   refine zJ ak cB (zN sg (by rw[GExpr.row_eq];rfl)) rfl ?_
   refine(A9 bl).elim (fun w3=> ?_) (fun w3=> ?_)
   .simp[go_sem,w3]
    exact zG () ⟨by rw[w,w2,w3];rfl,at_n 1 (by simp[go_sem,hk,hf,hd,w2]) rfl (by simp[ltOb,ltC,ltK]) (A4 _) (zF sg rfl)⟩
   .simp[go_sem,w3]
    exact bret (ab (by rw[w,w2,w3];rfl))
 .rintro _ h1
  have hM:=ae h1
  clear ab ae
  generalize hB:(if k=1 then mi&&(((st.order.isEmpty&& !d)||wo)&&decide (-1<=st.limit))else if k=2 then mr&& !f else if k=3 then ms else k==4)=B at hM
  obtain⟨S,hS⟩:=eX (((!(k==1)&&(!ie||(!st.order.isEmpty||(d|| !(st.limit==0)))))||((!(k==2)&& !re)||(!(k==3)&& !se))))
  rw[hS]at hM
  have no:S=true->false=M:=fun h=>by rw[h]at hM;exact hM
  have yes:S=false->B=M:=fun h=>by rw[h]at hM;exact hM
  clear hM
  have au:(st.limit !=0)= !(st.limit==0):=rfl
  have av:(st.kind !=2)= !(k==2):=by rw[hk];rfl
  have aw:(st.kind !=3)= !(k==3):=by rw[hk];rfl
  have ax:(st.kind==1)=(k==1):=by rw[hk]
  refine zO (zA ?_)
  simp[go_sem]
  refine ze9 (S:=Unit) [1] (fun _=> [.ptr 0 0]) (fun _=> [.box st.row]) (fun _=>S=false) hc hb ?_ ?_
  .generalize (st.limit==0)=l0 at au hS
   generalize (k==1)=k1 at ax hS
   generalize (k==2)=k2 at av hS
   generalize (k==3)=k3 at aw hS
   clear yes hB
   refine zA ?_
   simp[go_sem,ax]
   repeat' (first
    |(refine xE (fun w=> ?_) (fun w=> ?_)<;>simp[go_sem,w,av,aw,au,ao,aq,ar,hd])
    |(refine zR (fun w=> ?_) (fun w=> ?_)<;>simp[go_sem,w]))
   all_goals first
    |exact bret (no (by rw[<-hS];simp_all))
    |exact zG () ⟨by rw[<-hS];simp_all,at_n 1 (by simp[go_sem,hd]<;>simp_all) rfl (by simp[ltOb,ltC,ltK]) (A4 _) (zF sg rfl)⟩
  .rintro _ az
   have hM:=yes az
   rw[<-hB]at hM
   clear yes no hS hB
   refine zA ?_
   simp[go_sem,hk]
   by_cases k1:k=1
   .have aa:(k==1)=true:=by simpa using k1
    rw[if_pos k1]at hM
    have a6:decide (-1<=st.limit)=decide (-1<=st.limit):=rfl
    simp[go_sem,aa]
    refine zJ hit cB (zN sg rfl) rfl ?_
    simp[go_sem]
    repeat' (first
     |(refine xE (fun w=> ?_) (fun w=> ?_)<;>simp[go_sem,w,ay,hd])
     |(refine zJ aj cB (zN sg rfl) rfl ?_;simp[go_sem]))
    all_goals exact bret (by rw[<-hM];simp_all)
   have aa:(k==1)=false:=by simpa using k1
   rw[if_neg k1]at hM
   by_cases k2:k=2
   .have ad:(k==2)=true:=by simpa using k2
    rw[if_pos k2]at hM
    simp[go_sem,aa,ad]
    refine zJ al cB (zN sg rfl) rfl ?_
    simp[go_sem]
    refine(A9 mr).elim (fun w=> ?_) (fun w=> ?_)
    .simp[go_sem,w,hf]
     exact bret (by rw[<-hM,w];rfl)
    .simp[go_sem,w]
     exact bret (by rw[<-hM,w];rfl)
   have ad:(k==2)=false:=by simpa using k2
   rw[if_neg k2]at hM
   by_cases k3:k=3
   .have ah:(k==3)=true:=by simpa using k3
    rw[if_pos k3]at hM
    simp[go_sem,aa,ad,ah]
    refine zJ an cB (zN sg rfl) rfl ?_
    simp[go_sem]
    exact bret hM
   have ah:(k==3)=false:=by simpa using k3
   rw[if_neg k3]at hM
   simp[go_sem,aa,ad,ah]
   exact bret hM
def xW7 (l:GLot):Bool:=(decide (0<=l.mode)&&(decide (l.mode<=2)&&(decide (0<=l.n)&&(!(l.mode==0&& !(l.n==0))))))&&(decide (1<=l.stmts.length)&&decide (l.stmts.length<=8))
def mayL (l:GLot):Bool:=xW7 l&&l.stmts.all mayS
theorem xr9 (l:GLot) (hl:LOk l):Pure prog 84 [.agg l.row] (.bool (mayL l)):=by
 obtain⟨L,hL⟩:=eX l.stmts
 obtain⟨m,hm⟩:=eX l.mode
 obtain⟨n,hn⟩:=eX l.n
 obtain⟨ag,ae⟩:=hl.stmts
 rw[hL]at ag ae
 generalize hM:mayL l=M
 unfold mayL xW7 at hM
 rw[hL,hm,hn]at hM
 have no: ∀h:Bool,(h&&L.all mayS)=M->h=false->false=M:=fun h q w=>by rw[w]at q;exact q
 refine iV 0 func84 ntmps84 results84 fun c hc hb=> ?_
 refine zO (zA ?_)
 simp[go_sem]
 refine ze9 (S:=Unit) [1] (fun _=> [.ptr 0 0]) (fun _=> [.box l.row]) (fun _=>L.all mayS=M) hc hb ?_ ?_
 .have d1:decide (m<0)= !decide (0<=m):=by
   by_cases h:0<=m
   .rw[decide_eq_true h,decide_eq_false om];rfl
   .rw[decide_eq_false h,decide_eq_true om];rfl
  have d2:decide (2<m)= !decide (m<=2):=by
   by_cases h:m<=2
   .rw[decide_eq_true h,decide_eq_false om];rfl
   .rw[decide_eq_false h,decide_eq_true om];rfl
  have d3:decide (n<0)= !decide (0<=n):=by
   by_cases h:0<=n
   .rw[decide_eq_true h,decide_eq_false om];rfl
   .rw[decide_eq_false h,decide_eq_true om];rfl
  have d4:((L.length:Int)==0)= !decide (1<=L.length):=by
   by_cases h:1<=L.length
   .rw[decide_eq_true h];simp;intro hh;rw[hh]at h;simp at h
   .rw[decide_eq_false h]
    have:L= []:=B7 om
    rw[this];rfl
  have d5:decide ((8:Int)<L.length)= !decide (L.length<=8):=by
   by_cases h:L.length<=8
   .rw[decide_eq_true h,decide_eq_false om];rfl
   .rw[decide_eq_false h,decide_eq_true om];rfl
  have d6:(n !=0)= !(n==0):=rfl
  generalize decide (0<=m)=b1 at d1 hM
  generalize decide (m<=2)=b2 at d2 hM
  generalize decide (0<=n)=b3 at d3 hM
  generalize decide (1<=L.length)=b4 at d4 hM
  generalize decide (L.length<=8)=b5 at d5 hM
  generalize (n==0)=b6 at d6 hM
  have af:=no _ hM
  have ab:((b1&&(b2&&(b3&&(!(m==0&& !b6)))))&&(b4&&b5))=true->L.all mayS=M:=fun h=>by rw[h,B5]at hM;exact hM
  generalize ah:(m==0)=b7 at af ab
  clear hM no
  refine zA ?_
  simp[go_sem,hm,hn,hL,d1]
  repeat' (first
   |(refine xE (fun w=> ?_) (fun w=> ?_)<;>simp[go_sem,w,ah,d2,d3,d4,d5,d6])
   |(refine zR (fun w=> ?_) (fun w=> ?_)<;>simp[go_sem,w]))
  all_goals first
   |exact bret (af (by simp_all))
   |exact zG () ⟨ab (by simp_all),at_n 1 (by simp[go_sem,hm,hn,hL]) rfl (by simp[ltOb,ltC,ltK]) (A4 _) (zF sg rfl)⟩
 .rintro _ hM
  refine zA ?_
  simp[go_sem,hL]
  refine zH (S:=Nat) [41,42,43] (fun i=> [.sl .ro (L.map GStmt.row),.int .i64 L.length,.int .i64 (i:Int)]) (fun _=> []) (fun i=>L.length - i) (fun i=>i<=L.length/\(L.drop i).all mayS=M) hc hb 0 ⟨A4 _,by rw[Bg];exact hM⟩ ?_ ?_
  .exact aO
  rintro i ⟨hi,hinv⟩
  by_cases q:i<L.length
  rotate_left
  .rw[Ab om]at hinv
   refine zA ?_
   simp[go_sem,q]
   exact bret hinv
  have ei:=zQ q om
  rw[zG7 _ _ _ q]at hinv
  obtain⟨st,ad⟩:=eX (L[i])
  have aa:=xo5 st (ae st (ad▸Aa q))
  rw[ad]at hinv
  generalize mayS st=b at aa hinv
  refine zA ?_
  simp[go_sem,q,ad]
  refine zJ aa cB (zN sg rfl) rfl ?_
  refine(A9 b).elim (fun p=> ?_) (fun p=> ?_)
  .rw[p,B5]at hinv
   simp[go_sem,p,ei]
   exact zG (i+1) ⟨om,⟨om,hinv⟩,aO⟩
  .rw[p,Eh]at hinv
   simp[go_sem,p]
   exact bret hinv
def zv1 (T:GTable) (e:GExpr) (want:Int):Int:=if(za9 T e).2≠0 then(za9 T e).2 else if(za9 T e).1≠want/\(za9 T e).1≠0 then 15 else 0
theorem iret {b M:Int} {σ:St} (h:b=M):wret (some (.int .i64 b)) 0 (fun r s=>r= .int .i64 M/\s= []) σ:=by subst h;exact wR
theorem yc1 (T:GTable) (hT:T.cols.length<=maxLen) (e:GExpr) (he:EOk e) (want:Int):Pure prog 217 [.agg T.row,.agg e.row,.int .i64 want] (.int .i64 (zv1 T e want)):=by
 have h:=yx1 T hT e he
 generalize hM:zv1 T e want=M
 unfold zv1 at hM
 generalize za9 T e=k at h hM
 refine iW 0 func217 ntmps217 results217 fun c hc hb=>zL ?_
 simp[go_sem]
 refine zJ h cB (zN sg (by rw[GExpr.row_eq];rfl)) rfl ?_
 simp[go_sem,wC]
 by_cases q1:k.2=0
 rotate_left
 .have aa:(k.2 !=0)=true:=by simpa using q1
  rw[if_pos q1]at hM
  simp[go_sem,aa]
  exact iret hM
 have aa:(k.2 !=0)=false:=by simpa using q1
 rw[if_neg (fun h=>h q1)]at hM
 simp[go_sem,aa]
 by_cases q2:k.1=want
 .have ab:(k.1 !=want)=false:=by simpa using q2
  rw[if_neg (fun h=>h.1 q2)]at hM
  simp[go_sem,ab]
  exact iret hM
 have ab:(k.1 !=want)=true:=by simpa using q2
 simp[go_sem,ab]
 by_cases q3:k.1=0
 .have ad:(k.1 !=0)=false:=by simpa using q3
  rw[if_neg (fun h=>h.2 q3)]at hM
  simp[go_sem,ad]
  exact iret hM
 .have ad:(k.1 !=0)=true:=by simpa using q3
  rw[if_pos ⟨q2,q3⟩]at hM
  simp[go_sem,ad]
  exact iret hM
def zK1 (T:GTable) (st:GStmt):Int:=if st.filtered=true then zv1 T st.where_ 1 else 0
theorem yS5 (T:GTable) (hT:T.cols.length<=maxLen) (st:GStmt) (hs:SOk st):Pure prog 144 [.agg T.row,.agg st.row] (.int .i64 (zK1 T st)):=by
 have h:=yc1 T hT st.where_ hs.where_ 1
 generalize hM:zK1 T st=M
 unfold zK1 at hM
 generalize zv1 T st.where_ 1=k at h hM
 refine iW 0 func144 ntmps144 results144 fun c hc hb=>zL ?_
 simp[go_sem]
 refine(A9 st.filtered).elim (fun w=> ?_) (fun w=> ?_)
 .rw[if_pos w]at hM
  simp[go_sem,w]
  refine zJ h cB (zN sg (by rw[GExpr.row_eq];rfl)) rfl ?_
  simp[go_sem]
  exact iret hM
 .rw[if_neg (by rw[w];decide)]at hM
  simp[go_sem,w]
  exact iret hM
def ys7 (T:GTable) (x:GItem):Int:=if x.kind=2 then(za9 T x.e).2 else if x.kind=4 then zv1 T x.e 2 else 0
def zo8 (T:GTable):List GItem->Int
 | []=>0
 |x::l=>if ys7 T x≠0 then ys7 T x else zo8 T l
def zv9 (l:List GItem):Bool:=l.any fun x=>x.kind==2
def zs4 (l:List GItem):Bool:=l.any fun x=>x.kind==3||x.kind==4
def endC (T:GTable) (st:GStmt):Int:=if st.order.isEmpty=true then 0 else if colF T st.order<0 then 14 else if zs4 st.items=true then 9 else 0
def yb5 (T:GTable) (st:GStmt):Int:=
 if zo8 T st.items≠0 then zo8 T st.items else if(zv9 st.items&&zs4 st.items)=true then 9 else if zK1 T st≠0 then zK1 T st else endC T st
theorem xv7 (T:GTable) (hT:T.cols.length<=maxLen) (st:GStmt) (hs:SOk st):Pure prog 141 [.agg T.row,.agg st.row] (.int .i64 (yb5 T st)):=by
 obtain⟨L,hL⟩:=eX st.items
 obtain⟨an,ai⟩:=hs.items
 rw[hL]at an ai
 have ah:=yS5 T hT st hs
 have af:=yp5 T st.order hT
 rw[show za2 (fun c:GCol=>c.name==st.order) T.cols 0=colF T st.order from rfl]at af
 generalize hM:yb5 T st=M
 unfold yb5 endC at hM
 rw[hL]at hM
 refine iV 0 func141 ntmps141 results141 fun c hc hb=> ?_
 refine zO (zA ?_)
 simp[go_sem]
 refine zO (zA ?_)
 simp[go_sem]
 refine ze9 (S:=Unit) [2,3,5,6] (fun _=> [.ptr 0 0,.ptr 1 0,.bool (zv9 L),.bool (zs4 L)]) (fun _=> [.box T.row,.box st.row]) (fun _=>zo8 T L=0) hc hb ?_ ?_
 .refine zO (zA ?_)
  simp[go_sem,hL]
  refine za4 ?_
  refine zH (S:=Nat×Bool×Bool) [2,3,5,6,12,13,14] (fun u=> [.ptr 0 0,.ptr 1 0,.bool u.2.1,.bool u.2.2,.sl .ro (L.map GItem.row),.int .i64 L.length,.int .i64 (u.1:Int)]) (fun _=> [.box T.row,.box st.row]) (fun u=>L.length - u.1)
   (fun u=>u.1<=L.length/\(u.2.1||zv9 (L.drop u.1))=zv9 L/\(u.2.2||zs4 (L.drop u.1))=zs4 L/\zo8 T (L.drop u.1)=zo8 T L) hc hb (0,false,false) ⟨A4 _,sm,sm,sm⟩ ?_ ?_
  .exact at_n 2 (by simp[go_sem,hL]) rfl (by simp[ltOb,ltC,ltK,GTable.row,GStmt.row]) (A4 _) (zF sg rfl)
  rintro⟨i,pl,wh⟩ ⟨hi,hp,hw,hinv⟩
  simp only at hi hp hw hinv
  by_cases q:i<L.length
  rotate_left
  .rw[Ab om]at hp hw hinv
   have hp:pl=zv9 L:=by rw[<-hp];exact(Bool.or_false _).symm
   have hw:wh=zs4 L:=by rw[<-hw];exact(Bool.or_false _).symm
   refine zA ?_
   simp[go_sem,q]
   exact zG () ⟨hinv.symm,aM 2 (by simp[ltOb,ltC,ltK]) (zF (by simp[go_sem,hp,hw]) rfl)⟩
  have ei:=zQ q om
  obtain⟨x,hx⟩:=eX (L[i])
  have hE:=(ai x (hx▸Aa q)).2
  rw[A8 q,hx]at hp hw hinv
  unfold zv9 at hp
  unfold zs4 at hw
  rw[List.any_cons]at hp hw
  rw[zo8]at hinv
  have bad:ys7 T x≠0->ys7 T x=M:=fun h=>by
   rw[if_pos h]at hinv
   rw[<-hM,<-hinv,if_pos h]
  have good:ys7 T x=0->zo8 T (L.drop (i+1))=zo8 T L:=fun h=>by
   rw[if_neg (fun g=>g h)]at hinv
   exact hinv
  clear hinv
  unfold ys7 at bad good
  have aj:=yx1 T hT x.e hE
  have ak:=yc1 T hT x.e hE 2
  generalize za9 T x.e=ty at aj bad good
  generalize zv1 T x.e 2=kc at ak bad good
  have go: ∀(a b:Bool) (e σ),(a||zv9 (L.drop (i+1)))=zv9 L->(b||zs4 (L.drop (i+1)))=zs4 L->zo8 T (L.drop (i+1))=zo8 T L->At 0 [2,3,5,6,12,13,14] [.ptr 0 0,.ptr 1 0,.bool a,.bool b,.sl .ro (L.map GItem.row),.int .i64 L.length,.int .i64 ((i+1:Nat):Int)] [.box T.row,.box st.row] e σ->
   Vx.Next (fun s':Nat×Bool×Bool=>L.length - s'.1<L.length - i/\(s'.1<=L.length/\(s'.2.1||zv9 (L.drop s'.1))=zv9 L/\(s'.2.2||zs4 (L.drop s'.1))=zs4 L/\zo8 T (L.drop s'.1)=zo8 T L)/\At 0 [2,3,5,6,12,13,14] [.ptr 0 0,.ptr 1 0,.bool s'.2.1,.bool s'.2.2,.sl .ro (L.map GItem.row),.int .i64 L.length,.int .i64 (s'.1:Int)] [.box T.row,.box st.row] e σ) fx:=fun a b e σ h1 h2 h3 h4=>
    zG (i+1,a,b) ⟨by simp only;omega,⟨by simp only;omega,h1,h2,h3⟩,h4⟩
  refine zA ?_
  simp[go_sem,q,hx]
  by_cases k2:x.kind=2
  .have ab:(x.kind==2)=true:=by simpa using k2
   rw[if_pos k2]at bad good
   have ao:(x.kind==3||x.kind==4)=false:=by rw[k2];rfl
   simp only[ab,Dx,Ep]at hp
   simp only[ao,Cb]at hw
   simp[go_sem,ab]
   refine zJ aj cB (zN sg (by rw[GExpr.row_eq];rfl)) rfl ?_
   by_cases qe:ty.2=0
   .have aa:(ty.2 !=0)=false:=by simpa using qe
    simp[go_sem,wC,aa,ei]
    exact go true wh _ _ (by rw[Dx];exact hp) hw (good qe) (aN 2 (by simp[ltOb,ltC,ltK,GTable.row,GStmt.row]))
   .have aa:(ty.2 !=0)=true:=by simpa using qe
    simp[go_sem,wC,aa]
    exact iret (bad qe)
  rw[if_neg k2]at bad good
  have ab:(x.kind==2)=false:=by simpa using k2
  simp only[ab,Cb]at hp
  by_cases k4:x.kind=4
  .have ae:(x.kind==4)=true:=by simpa using k4
   rw[if_pos k4]at bad good
   simp only[ae,Dx,Ep]at hw
   simp[go_sem,ab,ae]
   refine zJ ak cB (zN sg (by rw[GExpr.row_eq];rfl)) rfl ?_
   by_cases qe:kc=0
   .have aa:(kc !=0)=false:=by simpa using qe
    simp[go_sem,aa,ei]
    exact go pl true _ _ hp (by rw[Dx];exact hw) (good qe) (aN 2 (by simp[ltOb,ltC,ltK,GTable.row,GStmt.row]))
   .have aa:(kc !=0)=true:=by simpa using qe
    simp[go_sem,aa]
    exact iret (bad qe)
  rw[if_neg k4]at bad good
  have ae:(x.kind==4)=false:=by simpa using k4
  by_cases k3:x.kind=3
  .have ag:(x.kind==3)=true:=by simpa using k3
   simp only[ag,Dx,Ep]at hw
   simp[go_sem,ab,ae,ag,ei]
   exact go pl true _ _ hp (by rw[Dx];exact hw) (good rfl) (aN 2 (by simp[ltOb,ltC,ltK,GTable.row,GStmt.row]))
  .have ag:(x.kind==3)=false:=by simpa using k3
   simp only[ag,ae,Cb]at hw
   simp[go_sem,ab,ae,ag,ei]
   exact go pl wh _ _ hp hw (good rfl) (aN 2 (by simp[ltOb,ltC,ltK,GTable.row,GStmt.row]))
 .rintro _ hI
  rw[if_neg (fun h=>h hI)]at hM
  generalize zv9 L=pl at hM⊢
  generalize zs4 L=wh at hM⊢
  generalize zK1 T st=wc at ah hM
  have al:(st.order== [])=st.order.isEmpty:=by cases st.order<;>rfl
  refine zA ?_
  simp[go_sem]
  refine(A9 (pl&&wh)).elim (fun w=> ?_) (fun w=> ?_)
  .rw[if_pos w]at hM
   have w1:pl=true:=by cases pl<;>simp_all
   have w2:wh=true:=by cases wh<;>simp_all
   simp[go_sem,w1,w2]
   exact iret hM
  rw[if_neg (by rw[w];decide)]at hM
  refine xE (fun w1=> ?_) (fun w1=> ?_)
  .have w2:wh=false:=by cases wh<;>simp_all
   simp[go_sem,w1,w2]
   refine zJ ah cB (zN sg rfl) rfl ?_
   by_cases qe:wc=0
   rotate_left
   .have aa:(wc !=0)=true:=by simpa using qe
    rw[if_pos qe]at hM
    simp[go_sem,aa]
    exact iret hM
   have aa:(wc !=0)=false:=by simpa using qe
   rw[if_neg (fun h=>h qe)]at hM
   simp[go_sem,aa,al]
   refine(A9 st.order.isEmpty).elim (fun w3=> ?_) (fun w3=> ?_)
   .rw[if_pos w3]at hM
    simp[go_sem,w3]
    exact iret hM
   rw[if_neg (by rw[w3];decide)]at hM
   simp[go_sem,w3]
   refine zJ af cB (zN sg rfl) rfl ?_
   by_cases qc:colF T st.order<0
   .have ad:decide (colF T st.order<0)=true:=decide_eq_true qc
    rw[if_pos qc]at hM
    simp[go_sem,ad]
    exact iret hM
   have ad:decide (colF T st.order<0)=false:=decide_eq_false qc
   rw[if_neg qc]at hM
   simp[go_sem,ad]
   rw[if_neg (by rw[w2];decide)]at hM
   exact iret hM
  .have w1:pl=false:=by simpa using w1
   simp[go_sem,w1]
   refine zJ ah cB (zN sg rfl) rfl ?_
   by_cases qe:wc=0
   rotate_left
   .have aa:(wc !=0)=true:=by simpa using qe
    rw[if_pos qe]at hM
    simp[go_sem,aa]
    exact iret hM
   have aa:(wc !=0)=false:=by simpa using qe
   rw[if_neg (fun h=>h qe)]at hM
   simp[go_sem,aa,al]
   refine(A9 st.order.isEmpty).elim (fun w3=> ?_) (fun w3=> ?_)
   .rw[if_pos w3]at hM
    simp[go_sem,w3]
    exact iret hM
   rw[if_neg (by rw[w3];decide)]at hM
   simp[go_sem,w3]
   refine zJ af cB (zN sg rfl) rfl ?_
   by_cases qc:colF T st.order<0
   .have ad:decide (colF T st.order<0)=true:=decide_eq_true qc
    rw[if_pos qc]at hM
    simp[go_sem,ad]
    exact iret hM
   have ad:decide (colF T st.order<0)=false:=decide_eq_false qc
   rw[if_neg qc]at hM
   simp[go_sem,ad]
   refine(A9 wh).elim (fun w4=> ?_) (fun w4=> ?_)
   .rw[if_pos w4]at hM
    simp[go_sem,w4]
    exact iret hM
   .rw[if_neg (by rw[w4];decide)]at hM
    simp[go_sem,w4]
    exact iret hM
def lowF (l:List Int) (v:Int):Nat:=(l.filter fun x=>decide (x<v)).length
theorem xB7 (l:List Int) (v:Int) (i:Nat) (hi:i<=l.length) (h1: ∀k (h:k<l.length),k<i->l[k]<v) (h2: ∀k (h:k<l.length),i<=k->v<=l[k]):lowF l v=i:=by
 unfold lowF
 have e:l=l.take i++l.drop i:=(Bf i l).symm
 rw[e,Dd,Ak]
 have ha:(l.take i).filter (fun x=>decide (x<v))=l.take i:=Dw.2 fun x hx=>by
  obtain⟨k,hk,rfl⟩:=Dg.1 hx
  rw[Eo]
  rw[Bi]at hk
  exact decide_eq_true (h1 k om om)
 have hb:(l.drop i).filter (fun x=>decide (x<v))= []:=List.filter_eq_nil_iff.2 fun x hx=>by
  obtain⟨k,hk,rfl⟩:=Dg.1 hx
  rw[List.getElem_drop]
  rw[De]at hk
  have:=h2 (i+k) om om
  simp;omega
 rw[ha,hb,Bi]
 simp;omega
theorem xf4 (l:List Int) (v:Int) (hs:l.Pairwise (· < ·)) (i:Nat) (h1: ∀k (h:k<l.length),k<i->l[k]<v) (h2: ∀k (h:k<l.length),i<=k->v<=l[k]):(if h:i<l.length then l[i]==v else false)=l.contains v:=by
 rw[D4,E1]
 constructor
 .intro h
  split at h
  .rename_i hi
   rw[<-eq_of_beq h]
   exact Aa hi
  .cases h
 .intro h
  obtain⟨k,hk,rfl⟩:=Dg.1 h
  have ab:i<=k:=by
   rcases Cf k i with q|q
   .have:=h1 k hk q;omega
   .exact q
  have hi:i<l.length:=om
  rw[dif_pos hi]
  have aa:k=i:=by
   rcases Cf i k with q|q
   .have h3:=Dq.1 hs i k hi hk q
    have h4:=h2 i hi (A5 _)
    omega
   .omega
  subst aa
  exact beq_self_eq_true _
theorem xy6 (s k:Nat):(s:Int).fdiv k=((s/k:Nat):Int):=by
 rw[Cl _ om]
 rfl
theorem yH7 (x:Int):Pure prog 188 [.int .i64 x] (.bool false):=by
 refine iW 0 func188 ntmps188 results188 fun c hc hb=>zL ?_
 simp[go_sem]
 exact wR
def cmpI (x y:Int):Int:=if x<y then -1 else if x>y then 1 else 0
theorem ye4 (x y:Int):Pure prog 119 [.int .i64 x,.int .i64 y] (.int .i64 (cmpI x y)):=by
 generalize hM:cmpI x y=M
 have ret: ∀(r:Int) (σ:St),r=M->wret (some (.int .i64 r)) 0 (fun r s=>r= .int .i64 M/\s= []) σ:=fun r σ h=>by subst h;exact wR
 unfold cmpI at hM
 refine iW 0 func119 ntmps119 results119 fun c hc hb=>zL ?_
 simp[go_sem]
 refine pC (yH7 x) ?_
 simp[go_sem]
 refine pC (yH7 y) ?_
 simp[go_sem]
 repeat' (first|(refine zR (fun q=> ?_) (fun q=> ?_)<;>simp[go_sem,q]))
 all_goals exact ret _ _ (by rw[<-hM];simp only[decide_eq_true_eq,decide_eq_false_iff_not]at*;(repeat' split)<;>omega)
@[go_sem] def uRow (x:Int×List GSpan):List V:= [.int .i64 x.1,.sl .ro (x.2.map GSpan.row)]
theorem xg1 (x:Int×List GSpan) (r:Int):Pure prog 118 [.agg (uRow x),.int .i64 r] (.int .i64 (cmpI x.1 r)):=by
 refine iW 0 func118 ntmps118 results118 fun c hc hb=>zL ?_
 simp[go_sem]
 refine pC (ye4 x.1 r) ?_
 simp[go_sem]
 exact wR
theorem wa8 (l:List GSpan) (x:GSpan) (hl:l.length<=maxLen):Pure prog 191 [.sl .ro (l.map GSpan.row),.agg x.row] (.int .i64 (za2 (fun t:GSpan=>t==x) l 0)):=by
 generalize hM:za2 (fun t:GSpan=>t==x) l 0=M
 have ret: ∀(r:Int) (σ:St),r=M->wret (some (.int .i64 r)) 0 (fun r s=>r= .int .i64 M/\s= []) σ:=fun r σ h=>by subst h;exact wR
 refine iV 0 func191 ntmps191 results191 fun c hc hb=> ?_
 refine zA ?_
 simp[go_sem]
 refine zH (S:=Nat) [0,3,7,8] (fun i=> [.sl .ro (l.map GSpan.row),.ptr 0 0,.int .i64 l.length,.int .i64 i]) (fun _=> [.box x.row]) (fun i=>l.length - i) (fun i=>i<=l.length/\za2 (fun t:GSpan=>t==x) (l.drop i) i=M) hc hb 0 ⟨A4 _,hM⟩ ?_ ?_
 .exact aN 1 rfl
 rintro i ⟨hi,hinv⟩
 by_cases q:i<l.length
 rotate_left
 .rw[Bq om,za2]at hinv
  refine zA ?_
  simp[go_sem,q]
  exact ret _ _ hinv
 have ei:=zQ q (by unfold maxLen at hl;omega)
 obtain⟨y,hy⟩:=eX (l[i])
 rw[A8 q,hy,za2]at hinv
 refine zA ?_
 simp[go_sem,q]
 refine yS [] 1 rfl kR kR ?_
 simp[go_sem,q,hy]
 have aa:(x.lo==y.lo&&x.hi==y.hi)=(y==x):=by
  rw[D4]
  obtain⟨a,b⟩:=x;obtain⟨c,d⟩:=y
  simp only[A6,beq_iff_eq,GSpan.mk.injEq]
  exact⟨fun h=>⟨h.1.symm,h.2.symm⟩,fun h=>⟨h.1.symm,h.2.symm⟩⟩
 rw[aa]
 refine zR (fun w=> ?_) (fun w=> ?_)
 .rw[if_pos w]at hinv
  simp[go_sem]
  exact ret _ _ hinv
 .rw[if_neg (by rw[w];decide)]at hinv
  simp[go_sem,ei]
  exact zG (i+1) ⟨om,⟨q,hinv⟩,aN 1 rfl⟩
theorem zH8 (x:GSpan): ∀(l:List GSpan) (i:Nat),decide (0<=za2 (fun t:GSpan=>t==x) l i)=l.contains x
 | [],_=>rfl
 |y::l,i=>by
  unfold za2
  rw[E2,<-zH8 x l (i+1)]
  by_cases h:y=x
  .subst h;simp
  .rw[if_neg (by simpa using h),show(x==y)=false by simpa using fun e=>h e.symm,Cb]
theorem xz9 (l:List GSpan) (x:GSpan) (hl:l.length<=maxLen):Pure prog 121 [.sl .ro (l.map GSpan.row),.agg x.row] (.bool (l.contains x)):=by
 have h:=wa8 l x hl
 rw[<-zH8 x l 0]
 refine iW 0 func121 ntmps121 results121 fun c hc hb=>zL ?_
 simp[go_sem]
 refine zJ h cB (zN sg rfl) rfl ?_
 simp[go_sem]
 exact wR
theorem wf6 (U:List (Int×List GSpan)) (v:Int) (hl:U.length<=1000) (hs:(U.map (·.1)).Pairwise (· < ·)):
  Pure prog 117 [.sl .ro (U.map uRow),.int .i64 v,.fn 118 []] (.tup [.int .i64 (lowF (U.map (·.1)) v:Nat),.bool ((U.map (·.1)).contains v)]):=by
 obtain⟨l,hle⟩:=eX (U.map (·.1))
 have ai:l.length=U.length:=by rw[<-hle];simp
 rw[hle]at hs⊢
 have ab: ∀(k:Nat) (hk:k<U.length),l[k]'om=(U[k]).1:=fun k hk=>by subst hle;simp
 refine iV 0 func117 ntmps117 results117 fun c hc hb=> ?_
 refine zA ?_
 simp[go_sem]
 refine zH (S:=Nat×Nat) [0,1,2,8,9,10] (fun u=> [.sl .ro (U.map uRow),.int .i64 v,.fn 118 [],.int .i64 U.length,.int .i64 u.1,.int .i64 u.2]) (fun _=> []) (fun u=>u.2 - u.1)
  (fun u=>u.1<=u.2/\u.2<=l.length/\(∀k (h:k<l.length),k<u.1->l[k]<v)/\(∀k (h:k<l.length),u.2<=k->v<=l[k])) hc hb (0,l.length) ⟨A4 _,A5 _,fun k _ h=>absurd h (Bc _),fun k h h'=>by simp only at h';omega⟩ ?_ ?_
 .exact at_0 rfl (zN (by simp[go_sem,ai]) rfl)
 rintro⟨i,j⟩ ⟨aj,hj,h1,h2⟩
 simp only at aj hj h1 h2
 by_cases q:i<j
 rotate_left
 .have ak:j=i:=om
  subst ak
  have ah:=xB7 l v j hj h1 h2
  have aa:=xf4 l v hs j h1 h2
  rw[ah]
  by_cases q2:j<U.length
  .obtain⟨x,hx⟩:=eX (U[j])
   rw[dif_pos om,ab j q2,hx]at aa
   have al:(cmpI x.1 v==0)=(x.1==v):=by
    rw[D4];simp only[beq_iff_eq];unfold cmpI
    (repeat' split)<;>omega
   have ae:=xg1 x v
   rw[<-aa]
   refine zA ?_
   simp[go_sem,q2,hx]
   refine zJ ae cB (zN sg rfl) rfl ?_
   simp[go_sem,al]
   exact wR
  .rw[dif_neg om]at aa
   rw[<-aa]
   refine zA ?_
   simp[go_sem,q2]
   exact wR
 obtain⟨h,hh⟩:=eX ((i+j)/2)
 have ao:i<=h:=om
 have aq:h<j:=om
 have af:h<U.length:=om
 have ad:h<l.length:=om
 obtain⟨x,hx⟩:=eX (U[h])
 have ar:l[h]=x.1:=by rw[ab h af,hx]
 have e1:IntKind.i64.wrap ((i:Int)+j)=((i+j:Nat):Int):=by rw[i64_id om om];omega
 have em:IntKind.i64.wrap ((IntKind.u64.wrap (IntKind.i64.wrap ((i:Int)+j))).fdiv 2)=(h:Int):=by
  rw[e1,Vx.u64_id om om,show(2:Int)=((2:Nat):Int) by rfl,xy6,hh,i64_id om om]
 have eh:=zQ af om
 have ae:=xg1 x v
 have an:decide (cmpI x.1 v<0)=decide (x.1<v):=by
  rw[D4];simp only[decide_eq_true_eq];unfold cmpI
  (repeat' split)<;>omega
 refine zA ?_
 simp[go_sem,q,em,af,hx]
 refine zJ ae cB (zN sg rfl) rfl ?_
 simp[go_sem,an]
 refine zR (fun w=> ?_) (fun w=> ?_)
 .have w:x.1<v:=by simpa using w
  simp[go_sem,eh]
  refine zG (h+1,j) ⟨by simp only;omega,⟨by simp only;omega,by simp only;omega,fun k hk ag=> ?_,h2⟩,aO⟩
  simp only at ag
  rcases Cf k h with q3|q3
  .have:=Dq.1 hs k h hk ad q3
   omega
  .have:k=h:=om
   subst this
   omega
 .have w: ¬x.1<v:=by simpa using w
  simp[go_sem]
  refine zG (i,h) ⟨by simp only;omega,⟨by simp only;omega,by simp only;omega,h1,fun k hk ag=> ?_⟩,aO⟩
  simp only at ag
  rcases Cf h k with q3|q3
  .have:=Dq.1 hs h k ad hk q3
   omega
  .have:k=h:=om
   subst this
   omega
end Go.Proofs.YtefbicjgbaaieaaGreat
