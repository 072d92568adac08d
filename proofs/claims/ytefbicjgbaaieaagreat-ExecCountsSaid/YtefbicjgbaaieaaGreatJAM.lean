/-
  Contracts of functions that the claimed statement reaches, each proved over trees (the library Vx); used by the theorem at the end of the claim.
  Conditions: as each theorem states them.
-/
import Derived.Test.YtefbicjgbaaieaaGreatJAI
import Derived.Test.YtefbicjgbaaieaaGreatJAL
import Derived.Test.YtefbicjgbaaieaaGreatJAK
import Derived.Test.YtefbicjgbaaieaaGreatJAE
import Derived.Lib.Overlaps
import Derived.Lib.AppendZerosOnto
import Derived.Laws.Externs
import Derived.Laws.IdiomCopy
import Derived.Deep.RegionLaw
import Derived.Test.YtefbicjgbaaieaaGreatJAJ
set_option maxHeartbeats 8000000
namespace Go.Proofs.YtefbicjgbaaieaaGreat
open Go Go.Vx Go.Proofs.Tryz
set_option maxRecDepth 100000
theorem yj6 (c:UInt8):Pure prog 268 [.int .u8 c.toNat] (.bool (xJ c)):=by
 unfold xJ
 generalize c.toNat=n
 generalize hM:decide (48<=n/\n<=57)=M
 have ret: ∀(r:Bool) (σ:St),r=M->wret (some (.bool r)) 0 (fun r s=>r= .bool M/\s= []) σ:=fun r σ h=>by subst h;exact wR
 refine iW 0 func268 ntmps268 results268 fun c hc hb=>zK ?_
 simp[go_sem]
 refine xB (fun q=> ?_) (fun q=> ?_)
 .simp[go_sem,q]
  refine ret _ _ ?_
  rw[<-hM]
  simp at q
  exact decide_eq_decide.2 om
 .simp[go_sem,q]
  refine ret _ _ ?_
  rw[<-hM]
  simp at q
  exact(decide_eq_false om).symm
theorem yU2: ∀n:Fin 256,wG (UInt8.ofNat n.1)=(((decide (97<=zf2 .or .u8 (n.1:Nat) 32)&&decide (zf2 .or .u8 (n.1:Nat) 32<=122))&&decide (65<=((n.1:Nat):Int)))||(((n.1:Nat):Int)==95)):=by decide+kernel
theorem yJ9 (c:UInt8):Pure prog 338 [.int .u8 c.toNat] (.bool (wG c)):=by
 have h:=yU2 ⟨c.toNat,c.toNat_lt⟩
 simp only[UInt8.ofNat_toNat]at h
 rw[h]
 clear h
 obtain⟨n,hn⟩:=eX c.toNat
 simp only[hn]
 generalize hg:zf2 .or .u8 (n:Nat) 32=g
 refine iW 0 func338 ntmps338 results338 fun c hc hb=>zK ?_
 simp[go_sem,hg]
 refine(A7 (decide (97<=g))).elim (fun q1=> ?_) (fun q1=> ?_)
 .refine(A7 (decide (g<=122))).elim (fun q2=> ?_) (fun q2=> ?_)
  .refine(A7 (decide (65<=(n:Int)))).elim (fun q3=> ?_) (fun q3=> ?_)
   .rw[q1,q2,q3]
    simp[go_sem,hg,q2,q3]
    exact wR
   .rw[q1,q2,q3]
    simp[go_sem,hg,q2,q3]
    exact wR
  .rw[q1,q2]
   simp[go_sem,hg,q2]
   exact wR
 .rw[q1]
  simp[go_sem]
  exact wR
def zo7 (c:UInt8):Bool:=wG c||xJ c
theorem yU6 (c:UInt8):Pure prog 270 [.int .u8 c.toNat] (.bool (zo7 c)):=by
 have h1:=yJ9 c
 have h2:=yj6 c
 unfold zo7
 generalize wG c=a at h1⊢
 generalize xJ c=b at h2⊢
 refine iW 0 func270 ntmps270 results270 fun c hc hb=>zK ?_
 simp[go_sem]
 refine pC h1 ?_
 simp[go_sem]
 refine(A7 a).elim (fun q=> ?_) (fun q=> ?_)
 .simp[go_sem,q]
  exact xP (zC rfl) ⟨sM,rfl⟩
 .simp[go_sem,q]
  refine pC h2 ?_
  simp[go_sem]
  exact xP (zC rfl) ⟨by simp[q],rfl⟩
def runF (p:UInt8->Bool):List UInt8->Nat
 | []=>0
 |c::l=>if p c=true then runF p l+1 else 0
theorem xA1 (s:List UInt8) (hl:s.length<=maxLen):Pure prog 269 [.str s,.fn 270 []] (.int .i64 (runF zo7 s:Nat)):=by
 generalize hM:runF zo7 s=M
 have ret: ∀(r:Nat) (σ:St),r=M->wret (some (.int .i64 r)) 0 (fun r s=>r= .int .i64 (M:Nat)/\s= []) σ:=fun r σ h=>by subst h;exact wR
 refine iV 0 func269 ntmps269 results269 fun c hc hb=> ?_
 refine zA ?_
 simp[go_sem]
 refine zH (S:=Nat) [0,1,5] (fun i=> [.str s,.fn 270 [],.int .i64 i]) (fun _=> []) (fun i=>s.length - i) (fun i=>i<=s.length/\i+runF zo7 (s.drop i)=M) hc hb 0 ⟨A3 _,by rw[B1,Ae,hM]⟩ ?_ ?_
 .exact aO
 rintro i ⟨hi,hinv⟩
 by_cases q:i<s.length
 rotate_left
 .rw[C3 om,runF,D9]at hinv
  refine zA ?_
  simp[go_sem,q]
  exact ret _ _ hinv
 have ei:=zS q (by unfold maxLen at hl;omega)
 obtain⟨x,hx⟩:=eX (s[i])
 rw[A5 q,hx,runF]at hinv
 have aa:=yU6 x
 obtain⟨b,ab⟩:=eX (zo7 x)
 rw[ab]at aa hinv
 refine zA ?_
 simp[go_sem,q,hx]
 refine pC aa ?_
 simp[go_sem]
 refine(A7 b).elim (fun w=> ?_) (fun w=> ?_)
 .rw[if_pos w]at hinv
  simp[go_sem,w,ei]
  exact zG (i+1) ⟨om,⟨q,om⟩,aO⟩
 .rw[if_neg (by rw[w];decide)]at hinv
  simp[go_sem,w]
  exact ret _ _ om
theorem yN9 (p:UInt8->Bool): ∀s:List UInt8,decide (runF p s<s.length)= !(s.all p)
 | []=>by simp[runF]
 |c::l=>by
  have h:=yN9 p l
  unfold runF
  by_cases q:p c=true
  .rw[if_pos q,Ac,q,Au,<-h]
   exact decide_eq_decide.2 sM
  .rw[if_neg q]
   have q:p c=false:=sU q
   simp[q]
def spW:List UInt8->List (List UInt8)
 | []=> []
 |c::l=>if c=32/\32∈l then l.takeWhile (· !=32)::spW l else spW l
theorem xD1: ∀(s l:List UInt8),(∀c∈s,c≠32)->((s++ [32]).isPrefixOf l=true↔l.takeWhile (· !=32)=s/\32∈l)
 | [],[],_=>by simp
 | [],c::l,_=>by
  by_cases h:c=32
  .subst h;simp
  .have h':(c !=32)=true:=sU h
   have h2: ¬(32=c):=fun e=>h e.symm
   simp[List.isPrefixOf,h',h2]
 |a::s,[],_=>by simp
 |a::s,c::l,hs=>by
  have ih:=xD1 s l fun x hx=>hs x (by simp[hx])
  have ha:a≠32:=hs a sM
  rw[Ax,List.isPrefixOf,A1,ih]
  by_cases h:c=32
  .subst h
   rw[List.takeWhile_cons_of_neg sM]
   constructor
   .rintro⟨h1,_⟩;exact absurd (sU h1) ha
   .rintro⟨h1,_⟩;cases h1
  .have h':(c !=32)=true:=sU h
   rw[D3 (sU h),Af]
   constructor
   .rintro⟨h1,h2,h3⟩
    have h1:a=c:=sU h1
    exact⟨by rw[h1,h2],.inr h3⟩
   .rintro⟨h1,h2⟩
    obtain⟨h3,h4⟩:=List.cons.inj h1
    exact⟨by simp[h3],h4,h2.resolve_left fun e=>h e.symm⟩
theorem yJ0 (s:List UInt8) (hs: ∀c∈s,c≠32): ∀T:List UInt8,0<=Lib.index T (32::(s++ [32]))↔s∈spW T
 | []=>by simp[Lib.index,spW]
 |b::l=>by
  have ih:=yJ0 s hs l
  have hg:=Lib.index_ge l (32::(s++ [32]))
  have hp:=xD1 s l hs
  unfold Lib.index spW
  by_cases h:(32::(s++ [32])).isPrefixOf (b::l)=true
  .rw[if_pos h]
   rw[List.isPrefixOf,A1,hp]at h
   have hb:b=32:=(eq_of_beq h.1).symm
   rw[if_pos ⟨hb,h.2.2⟩,h.2.1]
   exact⟨fun _=>Al,fun _=>Int.le_refl 0⟩
  .rw[if_neg h]
   rw[List.isPrefixOf,A1,hp]at h
   have aa:s∈(if b=32/\32∈l then l.takeWhile (· !=32)::spW l else spW l)↔s∈spW l:=by
    split
    .rename_i hc
     rw[Af]
     constructor
     .rintro(e|e)
      .exact absurd ⟨by rw[hc.1];exact beq_self_eq_true _,e.symm,hc.2⟩ h
      .exact e
     .exact .inr
    .exact Iff.rfl
   rw[aa,<-ih]
   split
   .rename_i e
    rw[eq_of_beq e]
   .rename_i e
    have e: ¬Lib.index l (32::(s++ [32]))= -1:=fun q=>e (by rw[q];rfl)
    omega
def yN2:List UInt8:= [32,65,76,76,32,65,78,68,32,65,83,32,65,83,67,32,66,69,84,87,69,69,78,32,66,79,85,78,68,32,66,89,32,67,79,85,78,84,32,68,69,76,69,84,69,32,68,69,83,67,32,69,88,65,67,84,32,70,65,76,83,69,32,70,82,79,77,32,73,78,83,69,82,84,32,73,78,84,79,32,73,83,32,76,73,77,73,84,32,78,79,84,32,78,85,76,76,32,78,79,87,32,79,70,32,79,82,32,79,82,68,69,82,32,83,69,76,69,67,84,32,83,69,84,32,83,85,77,32,83,89,83,84,69,77,32,84,73,77,69,32,84,82,85,69,32,85,80,68,65,84,69,32,86,65,76,85,69,83,32,87,72,69,82,69,32]
theorem yN3:spW yN2=resv:=by decide+kernel
theorem xE0 (s:List UInt8) (hs: ∀c∈s,c≠32):Lib.contains yN2 (32::(s++ [32]))=resv.contains s:=by
 have h:=yJ0 s hs yN2
 rw[yN3]at h
 unfold Lib.contains
 rw[Dl,decide_eq_true_eq,h]
 simp
theorem yo6 (s sub:List UInt8) (hs:s.length<4294967281):Pure prog 272 [.str s,.str sub] (.bool (Lib.contains s sub)):=by
 intro w L β aa hm ha
 match aa,ha with
 | [a,b],⟨h1,h2,_⟩=>
  have e1:=za3 h1
  have e2:=za3 h2
  subst e1 e2
  obtain⟨_,m,hc⟩:=hm.tab.num (vints.headD (0,.i64)) dc
  refine(Tryz.strings_Contains _ _ m w (by rw[zu5];exact hs) hc).mono ?_
  rintro e w' ⟨rfl,rfl⟩
  exact⟨_,.bool _,L,[],β,rfl,⟨rfl,rfl⟩,A4 _,hm,RdP.bool _⟩
def upI:List UInt8->Nat->List UInt8
 | [],_=> []
 |c::l,0=>c::l
 |c::l,i+1=>yF c::upI l i
theorem xi3: ∀(s:List UInt8) (i:Nat),(upI s i).length=s.length
 | [],_=>rfl
 |_::_,0=>rfl
 |c::l,i+1=>by rw[upI,Aa,xi3 l i,Aa]
theorem xG4: ∀s:List UInt8,upI s 0=s
 | []=>rfl
 |_::_=>rfl
theorem xi1: ∀s:List UInt8,upI s s.length=s.map yF
 | []=>rfl
 |c::l=>by rw[Aa,upI,xi1 l,Ai]
theorem xi2: ∀(s:List UInt8) (i:Nat),(upI s i)[i]? =s[i]?
 | [],_=>rfl
 |_::_,0=>rfl
 |c::l,i+1=>by rw[upI,Cd,Cd,xi2 l i]
theorem xi4: ∀(s:List UInt8) (i:Nat) (h:i<s.length),(upI s i).set i (yF s[i])=upI s (i+1)
 | [],_,h=>absurd h (Dn _)
 |c::l,0,_=>by rw[upI,upI,xG4];rfl
 |c::l,i+1,h=>by
  rw[upI,Bs,List.getElem_cons_succ,xi4 l i (sU h),upI]
theorem yP8: ∀(s:List UInt8) (i:Nat) (h:i<s.length),yF s[i]=s[i]->upI s i=upI s (i+1)
 | [],_,h,_=>absurd h (Dn _)
 |c::l,0,_,hg=>by rw[upI,upI,xG4];rw[List.getElem_cons_zero]at hg;rw[hg]
 |c::l,i+1,h,hg=>by
  rw[upI,upI,yP8 l i (sU h) (sU hg)]
abbrev bRw:UInt8->List V:=fun c=> [V.int .u8 c.toNat]
theorem zY4 (s:List UInt8):zO s=s.map bRw:=rfl
theorem xW4 (l:List UInt8) (n:Nat):ltOb n (.lst (l.map bRw) 1)=true:=by
 simp only[ltOb,Aj]
 intro r hr
 obtain⟨x,_,rfl⟩:=Ad.1 hr
 intro y hy
 cases hy with
 |head=>rfl
 |tail _ h=>cases h
theorem yx6 (l:List UInt8):([Ob.lst (l.map bRw) 1]:St).all (ltOb 1)=true:=by
 simp only[Ac,xW4,Cb,Bool.and_self]
theorem xt0 (l:List UInt8):wE (l.map bRw)=true:=by
 simp only[wE,Aj]
 intro r hr
 obtain⟨x,_,rfl⟩:=Ad.1 hr
 intro y hy
 cases hy with
 |head=>rfl
 |tail _ h=>cases h
theorem xj8 (l:List UInt8) (n:Nat) (h:l.length=n):zb7 (l.map bRw) 0 n=l.map bRw:=by
 unfold zb7
 rw[B1,Ap (by simp;omega),Bh]
 rfl
theorem yU5 (s:List UInt8) (hl:s.length<=maxLen):Pure prog 271 [.str s] (.str (s.map yF)):=by
 obtain⟨n,hn⟩:=eX s.length
 unfold maxLen at hl
 refine iV 0 func271 ntmps271 results271 fun c hc hb=> ?_
 refine zx7 7 dc ?_
 refine zA ?_
 simp[go_sem,zY4,hn]
 refine zH (S:=Nat) [3,8,9,10] (fun i=> [.lsv 0 1 n 0 n,.lsv 0 1 n 0 n,.int .i64 n,.int .i64 i]) (fun i=> [.lst ((upI s i).map bRw) 1]) (fun i=>n - i) (fun i=>i<=n) hc hb 0 (A3 _) ?_ ?_
 .exact at_n 1 (by simp[go_sem,xG4]) rfl (yx6 _) (A3 _) (zF sg rfl)
 intro i hi
 by_cases q:i<n
 rotate_left
 .have ak:i=n:=om
  subst ak
  rw[<-hn,xi1,hn]
  have ag:=xj8 (s.map yF) i (by rw[An,hn])
  have ae:=zk1 (s.map yF)
  have af:=wY (s.map yF)
  rw[zY4]at ae af
  generalize hS:s.map yF=S at ag ae af⊢
  have al:S.length=i:=by rw[<-hS,An,hn]
  clear hS
  refine zq6 0 1 (S.map bRw) rfl (xt0 _) ?_
  refine zA ?_
  simp[go_sem,al,ag]
  refine zI af ?_
  simp[go_sem]
  rw[<-Bh,ae]
  exact wR
 have hq:i<s.length:=om
 have ei:=zS q om
 obtain⟨x,hx⟩:=eX (s[i])
 obtain⟨cur,aa⟩: ∃c,upI s i=c:=⟨_,rfl⟩
 obtain⟨ah,ab⟩: ∃c,upI s (i+1)=c:=⟨_,rfl⟩
 have ai:cur.length=n:=by rw[<-aa,xi3,hn]
 have an:i<cur.length:=om
 have ao:cur[i]=x:=by
  have h:=xi2 s i
  rw[aa,A0 an,A0 hq,hx]at h
  exact Option.some.inj h
 have aj:cur.set i (yF x)=ah:=by rw[<-aa,<-hx,xi4 s i hq,ab]
 have ad:yF x=x->cur=ah:=fun h=>by rw[<-aa,<-ab];exact yP8 s i hq (by rw[hx];exact h)
 rw[aa]
 have ar:0<=((x.toNat:Nat):Int)/\((x.toNat:Nat):Int)<=255:=by have:=x.toNat_lt;omega
 refine zA ?_
 simp[go_sem,q,ao,ai]
 have small: ¬(97<=x.toNat/\x.toNat<=122)->yF x=x:=fun h=>by unfold yF;rw[if_neg h]
 refine xB (fun q1=> ?_) (fun q1=> ?_)
 .simp[go_sem,q1]
  refine zR (fun q2=> ?_) (fun q2=> ?_)
  .have q1:97<=x.toNat:=by simp at q1;omega
   have q2:x.toNat<=122:=by simp at q2;omega
   have hg:IntKind.u8.wrap ((x.toNat:Int) - 32)=((yF x).toNat:Int):=by
    rw[yD5 om om]
    unfold yF
    rw[if_pos ⟨q1,q2⟩,UInt8.toNat_ofNat']
    omega
   simp[go_sem,hg,q,ai,ei]
   exact zG (i+1) ⟨om,om,at_n 1 (by rw[ab,<-aj];simp[go_sem,List.map_set]) rfl (yx6 _) (A3 _) (zF sg rfl)⟩
  .have q2: ¬x.toNat<=122:=by simp at q2;omega
   have hs:=ad (small fun h=>q2 h.2)
   simp[go_sem,ei]
   exact zG (i+1) ⟨om,om,at_n 1 (by rw[ab,<-hs];simp[go_sem]) rfl (yx6 _) (A3 _) (zF sg rfl)⟩
 .have q1: ¬97<=x.toNat:=by simp at q1;omega
  have hs:=ad (small fun h=>q1 h.1)
  have aq:decide ((97:Int)<=x.toNat)=false:=by simp;omega
  simp[go_sem,ei,aq]
  exact zG (i+1) ⟨om,om,at_n 1 (by rw[ab,<-hs];simp[go_sem]) rfl (yx6 _) (A3 _) (zF sg rfl)⟩
theorem xl0 (s:List UInt8):(s.map yF==s)=s.all fun c=>yF c==c:=by
 induction s with
 |nil=>rfl
 |cons c l ih=>
  rw[Ai,Ac,<-ih]
  rfl
theorem xI0 (s:List UInt8):zi6 s=(decide (1<=s.length/\s.length<=16)&&(!xJ (s.headD 0)&&(s.all zo7&&(s.all (fun c=>yF c==c)&& !resv.contains s)))):=by
 have h:s.all okC=(s.all zo7&&s.all (fun c=>yF c==c)):=by
  induction s with
  |nil=>rfl
  |cons c l ih=>
   rw[Ac,Ac,Ac,ih]
   unfold okC zo7
   cases wG c<;>cases xJ c<;>cases (yF c==c)<;>simp
 unfold zi6
 rw[h,Bool.and_assoc]
theorem xI1:zo7 32=false:=dc
theorem zL6 (s:List UInt8) (hl:s.length<=maxLen):Pure prog 211 [.str s] (.bool (zi6 s)):=by
 have ad:=xA1 s hl
 have aa:=yN9 zo7 s
 have ag:=yU5 s hl
 have ab:=xl0 s
 have ah:=yj6 (s[0]?.getD 0)
 have ai:s.headD 0=s[0]?.getD 0:=by cases s<;>rfl
 have ae:(s.all zo7)=true->Pure prog 272 [.str yN2,.str (32::(s++ [32]))] (.bool (resv.contains s)):=fun h=>by
  have h1: ∀c∈s,c≠32:=fun c hc e=>by
   rw[Aj]at h
   have:=h c hc
   rw[e,xI1]at this
   cases this
  have h2:=yo6 yN2 (32::(s++ [32])) dc
  rw[xE0 s h1]at h2
  exact h2
 generalize hM:zi6 s=M
 rw[xI0,ai]at hM
 generalize runF zo7 s=r at ad aa
 generalize s.map yF=u at ag ab
 generalize xJ (s[0]?.getD 0)=d at ah hM
 generalize (s.all fun c=>yF c==c)=g at ab hM
 generalize resv.contains s=k at ae hM
 generalize s.all zo7=w at aa ae hM
 have ret: ∀(b:Bool) (σ:St),b=M->wret (some (.bool b)) 0 (fun r s=>r= .bool M/\s= []) σ:=fun r σ h=>by subst h;exact wR
 unfold maxLen at hl
 refine iV 0 func211 ntmps211 results211 fun c hc hb=> ?_
 refine zA ?_
 simp[go_sem]
 by_cases h0:s= []
 .subst h0
  have hM:M=false:=by rw[<-hM];rfl
  simp[go_sem]
  exact ret _ _ hM.symm
 have h1:1<=s.length:=by
  cases s with
  |nil=>exact absurd rfl h0
  |cons _ _=>simp
 have aj:s.isEmpty=false:=by
  cases s with
  |nil=>exact absurd rfl h0
  |cons _ _=>rfl
 simp[go_sem,aj]
 by_cases h2:16<s.length
 .have af:decide ((16:Int)<s.length)=true:=by simp;omega
  have hM:M=false:=by rw[<-hM,decide_eq_false om];rfl
  simp[go_sem,af]
  exact ret _ _ hM.symm
 have af:decide ((16:Int)<s.length)=false:=by simp;omega
 rw[decide_eq_true (show 1<=s.length/\s.length<=16 by omega),Au]at hM
 simp[go_sem,af]
 refine zI om ?_
 simp[go_sem]
 refine pC ah ?_
 simp[go_sem]
 refine(A7 d).elim (fun q=> ?_) (fun q=> ?_)
 .have hM:M=false:=by rw[<-hM,q];rfl
  simp[go_sem,q]
  exact ret _ _ hM.symm
 rw[q,Bool.not_false,Au]at hM
 simp[go_sem,q]
 refine pC ad ?_
 simp[go_sem]
 refine(A7 w).elim (fun q2=> ?_) (fun q2=> ?_)
 rotate_left
 .have hM:M=false:=by rw[<-hM,q2];rfl
  have hr:decide (r<s.length)=true:=by rw[aa,q2];rfl
  simp[go_sem,hr]
  exact ret _ _ hM.symm
 have hr:decide (r<s.length)=false:=by rw[aa,q2];rfl
 rw[q2,Au]at hM
 simp[go_sem,hr]
 refine pC ag ?_
 simp[go_sem]
 refine(A7 g).elim (fun q3=> ?_) (fun q3=> ?_)
 rotate_left
 .have hM:M=false:=by rw[<-hM,q3];rfl
  have hu:(u==s)=false:=by rw[ab,q3]
  simp[go_sem,hu]
  exact ret _ _ hM.symm
 have hu:(u==s)=true:=by rw[ab,q3]
 rw[q3,Au]at hM
 simp[go_sem,hu]
 refine zI om ?_
 simp[go_sem]
 refine zI om ?_
 simp[go_sem]
 refine pC (ae q2) ?_
 simp[go_sem]
 exact ret _ _ hM
end Go.Proofs.YtefbicjgbaaieaaGreat
namespace Go.Proofs.YtefbicjgbaaieaaGreat
open Go Go.Vx R Go.Proofs.Tryz
set_option maxRecDepth 100000
def zJ6 (s:List UInt8):Int:=if zG3 s=0 then -1 else zG3 s
theorem yY4 (s:List UInt8):Pure prog 273 [.str s] (.int .i64 (zJ6 s)):=by
 have hM:zJ6 s=if opsOne.contains s=true then 1 else if opsTwo.contains s=true then 2 else -1:=by
  unfold zJ6 zG3
  by_cases h1:opsTwo.contains s=true
  .have h2:opsOne.contains s=false:=by
    unfold opsTwo at h1
    simp only[Dk,List.contains_nil,E7,Be,beq_iff_eq]at h1
    rcases h1 with rfl|rfl|rfl|rfl|rfl|rfl|rfl|rfl|rfl|rfl|rfl|rfl|rfl<;>decide
   simp only[h1,h2]
   rfl
  .have h1:opsTwo.contains s=false:=sU h1
   by_cases h2:opsOne.contains s=true
   .simp only[h1,h2];rfl
   .have h2:opsOne.contains s=false:=sU h2
    simp only[h1,h2];rfl
 generalize zJ6 s=M at hM⊢
 have ret: ∀(r:Int) (σ:St),r=M->wret (some (.int .i64 r)) 0 (fun r s=>r= .int .i64 M/\s= []) σ:=fun r σ h=>by subst h;exact wR
 unfold opsTwo opsOne at hM
 simp only[Dk,List.contains_nil]at hM
 refine iW 0 func273 ntmps273 results273 fun c hc hb=>zK ?_
 simp[go_sem]
 repeat' (first|(refine xB (fun q=> ?_) (fun q=> ?_)<;>simp[go_sem,q])|(refine zR (fun q=> ?_) (fun q=> ?_)<;>simp[go_sem,q]))
 all_goals exact ret _ _ (by simp_all)
def zA1 (e:GExpr):Bool:=e.kind==0&&(e.s.isEmpty&&(zs3 e.v&&e.args.isEmpty))
theorem xw2 (l:List GExpr) (hl:l.length<=maxLen):Pure prog 340 [.sl .ro (l.map GExpr.row),.sl .ro [],.fn 274 []] (.bool l.isEmpty):=by
 generalize hM:l.isEmpty=M
 have ret: ∀(r:Bool) (σ:St),r=M->wret (some (.bool r)) 0 (fun r s=>r= .bool M/\s= []) σ:=fun r σ h=>by subst h;exact wR
 refine iW 0 func340 ntmps340 results340 fun c hc hb=>zK ?_
 cases l with
 |nil=>
  simp[go_sem]
  refine zH (S:=Unit) [15,16,17] (fun _=> [.sl .ro [],.int .i64 0,.int .i64 0]) (fun _=> []) (fun _=>0) (fun _=>True) hc hb () trivial ?_ ?_
  .exact aO
  rintro _ _
  refine zA ?_
  simp[go_sem]
  exact ret _ _ hM
 |cons x l=>
  have q:(((x::l).length:Int) !=0)=true:=by simp;omega
  simp only[Aa,Int.natCast_add,Bu]at q
  simp[go_sem,q]
  exact ret _ _ hM
theorem xP8 (e:GExpr) (hw:e.args.length<=maxLen):Pure prog 274 [.agg e.row,.agg zeroE.row] (.bool (zA1 e)):=by
 have heq:=xw2 e.args hw
 generalize hM:zA1 e=M
 unfold zA1 zs3 at hM
 generalize e.args.isEmpty=b at heq hM
 have ret: ∀(r:Bool) (σ:St),r=M->wret (some (.bool r)) 0 (fun r s=>r= .bool M/\s= []) σ:=fun r σ h=>by subst h;exact wR
 have aa:(e.s== [])=e.s.isEmpty:=by cases e.s<;>rfl
 have ab:(e.v.s== [])=e.v.s.isEmpty:=by cases e.v.s<;>rfl
 have z1:zeroE.kind=0:=rfl
 have z2:zeroE.s= []:=rfl
 have z3:zeroE.v=⟨0,0,[]⟩:=rfl
 have z4:zeroE.args= []:=rfl
 refine iW 0 func274 ntmps274 results274 fun c hc hb=>zK ?_
 simp[go_sem,z1,z2,z3,z4]
 repeat' (first
  |(refine xB (fun q=> ?_) (fun q=> ?_)<;>simp[go_sem,q])
  |(refine zR (fun q=> ?_) (fun q=> ?_)<;>simp[go_sem,q])
  |(refine pC heq ?_;simp[go_sem]))
 all_goals exact ret _ _ (by rw[<-hM];simp_all)
theorem xa8 (e:GExpr) (hw:e.args.length<=maxLen):Pure prog 213 [.agg e.row] (.bool (zA1 e)):=by
 have h:=xP8 e hw
 generalize zA1 e=b at h⊢
 refine iW 0 func213 ntmps213 results213 fun c hc hb=>zK ?_
 simp[go_sem]
 refine zM h cB ⟨?_, ?_,tV⟩ rfl ?_
 .rw[GExpr.row_eq];exact zC rfl
 .rw[GExpr.row_eq]
  exact zv2 ⟨zU rfl,zU rfl,zU rfl,zU rfl,zU rfl,yX,tV⟩
 simp[go_sem]
 exact wR
def mayE:Nat->GExpr->Bool
 |0,_=>false
 |n+1,e=>
  if e.kind=1 then e.s.isEmpty&&(e.args.isEmpty&&(mayF e.v&&decide (0<=e.v.n)))
  else if e.kind=2 then zs3 e.v&&(e.args.isEmpty&&zi6 e.s)
  else if ¬e.kind=3∨zs3 e.v=false∨zG3 e.s=0∨ ¬(e.args.length:Int)=zG3 e.s then false
  else e.args.all (mayE n)
theorem zH1 {α:Type} (p:α->Bool) (l:List α) (i:Nat) (h:i<l.length):(l.drop i).all p=(p l[i]&&(l.drop (i+1)).all p):=by
 rw[A5 h,Ac]
theorem zC0: ∀(n:Nat) (e:GExpr),n<=1000->Wide e->Good e->Pure prog 212 [.agg e.row,.int .i64 n] (.bool (mayE n e))
 |n,e,hn,hw,hg=>by
  have hlen:=hw.len
  have ak:=hw.sub
  have an:=hg.sub
  have ih: ∀m,n=m+1-> ∀x∈e.args,Pure prog 212 [.agg x.row,.int .i64 m] (.bool (mayE m x)):=fun m hm x hx=>zC0 m x om (ak x hx) (an x hx)
  have ag:=yq6 e.v
  have aa:=zL6 e.s (by have:=hg.str;unfold maxLen;omega)
  have ao:=yY4 e.s
  have hz:=yx1 e.v
  obtain⟨M,hM⟩:=eX (mayE n e)
  rw[hM]
  have ret: ∀(r:Bool) (σ:St),r=M->wret (some (.bool r)) 0 (fun r s=>r= .bool M/\s= []) σ:=fun r σ h=>by subst h;exact wR
  have ha:((e.args.length:Int)==0)=e.args.isEmpty:=by cases e.args<;>simp;omega
  have ar:(e.s== [])=e.s.isEmpty:=by cases e.s<;>rfl
  have au:(e.v.s== [])=e.v.s.isEmpty:=by cases e.v.s<;>rfl
  refine iV 0 func212 ntmps212 results212 fun c hc hb=> ?_
  by_cases h0:n=0
  .subst h0
   rw[mayE]at hM
   refine zA ?_
   simp[go_sem]
   exact ret _ _ hM
  obtain⟨m,rfl⟩: ∃m,n=m+1:=⟨n - 1,om⟩
  have ih:=ih m rfl
  rw[mayE]at hM
  have al:(((m+1:Nat):Int)==0)=false:=by simp;omega
  have em:IntKind.i64.wrap (((m+1:Nat):Int) - 1)=(m:Int):=by rw[i64_id om om];omega
  have aq:IntKind.i64.wrap (m:Int)=(m:Int):=i64_id om om
  refine zA ?_
  simp only[Int.natCast_add,Bu]at al em
  simp[go_sem,al]
  by_cases q1:e.kind=1
  .have af:(e.kind==1)=true:=sU q1
   rw[if_pos q1]at hM
   generalize mayF e.v=b at ag hM
   generalize e.args.isEmpty=ae at ha hM
   simp[go_sem,af]
   repeat' (first
    |(refine xB (fun q=> ?_) (fun q=> ?_)<;>simp[go_sem,q,ha])
    |(refine zM ag cB (zN sg rfl) rfl ?_;simp[go_sem]))
   all_goals exact ret _ _ (by rw[<-hM];simp_all)
  rw[if_neg q1]at hM
  have af:(e.kind==1)=false:=sU q1
  by_cases q2:e.kind=2
  .have ah:(e.kind==2)=true:=sU q2
   rw[if_pos q2]at hM
   unfold zs3 at hM
   generalize zi6 e.s=b at aa hM
   generalize e.args.isEmpty=ae at ha hM
   simp[go_sem,af,ah]
   repeat' (first
    |(refine xB (fun q=> ?_) (fun q=> ?_)<;>simp[go_sem,q,ha])
    |(refine zM aa cB (zN sg rfl) rfl ?_;simp[go_sem]))
   all_goals exact ret _ _ (by rw[<-hM];simp_all)
  rw[if_neg q2]at hM
  have ah:(e.kind==2)=false:=sU q2
  simp[go_sem,af,ah]
  refine zc2 [(15,0)] 1 sM kR kR ?_
  simp[go_sem]
  by_cases q3:e.kind=3
  rotate_left
  .have ai:(e.kind !=3)=true:=sU q3
   rw[if_pos (.inl q3)]at hM
   simp[go_sem,ai]
   exact ret _ _ hM
  have ai:(e.kind !=3)=false:=sU q3
  simp[go_sem,ai,hz]
  refine(A7 (zs3 e.v)).elim (fun w=> ?_) (fun w=> ?_)
  rotate_left
  .rw[if_pos (.inr (.inl w))]at hM
   simp[go_sem,w]
   exact ret _ _ hM
  simp[go_sem,w]
  refine zi5 ao cB (fun _=>zN sg rfl) rfl ?_
  unfold zJ6
  by_cases q4:zG3 e.s=0∨ ¬(e.args.length:Int)=zG3 e.s
  .have aj:((e.args.length:Int) !=(if zG3 e.s=0 then -1 else zG3 e.s))=true:=by
    rcases q4 with q4|q4
    .rw[if_pos q4];simp<;>omega
    .by_cases q5:zG3 e.s=0
     .rw[if_pos q5];simp<;>omega
     .rw[if_neg q5];simpa using q4
   rw[if_pos (.inr (.inr q4))]at hM
   simp[go_sem,aj]
   exact ret _ _ hM
  have aj:((e.args.length:Int) !=(if zG3 e.s=0 then -1 else zG3 e.s))=false:=by
   rw[if_neg (fun h=>q4 (.inl h))]
   simp only[bne_eq_false_iff_eq]
   exact C5 fun h=>q4 (.inr h)
  rw[if_neg (fun h=>h.elim (fun h=>h q3) fun h=>h.elim (fun h=>by rw[w]at h;cases h) q4)]at hM
  simp[go_sem,aj]
  obtain⟨args,ab⟩:=eX e.args
  rw[ab]at hM hlen ih
  simp[go_sem,ab]
  refine zH (S:=Nat) [1,73,74,75] (fun i=> [.int .i64 ((m:Int)+1),.sl .ro (args.map GExpr.row),.int .i64 args.length,.int .i64 (i:Int)]) (fun _=> []) (fun i=>args.length - i)
   (fun i=>i<=args.length/\(args.drop i).all (mayE m)=M) hc hb 0 ⟨A3 _,by rw[B1];exact hM⟩ ?_ ?_
  .exact aO
  rintro i ⟨hi,hinv⟩
  by_cases q:i<args.length
  rotate_left
  .rw[A9 om]at hinv
   refine zA ?_
   simp[go_sem,q]
   exact ret _ _ hinv
  have ei:=zS q om
  rw[zH1 _ _ _ q]at hinv
  obtain⟨x,hx⟩:=eX (args[i])
  have ad:=ih x (hx▸Ab q)
  rw[hx]at hinv
  generalize mayE m x=b at ad hinv
  refine zA ?_
  simp[go_sem,q,hx,aq]
  refine zM ad cB (zN sg (by rw[GExpr.row_eq];rfl)) rfl ?_
  refine(A7 b).elim (fun p=> ?_) (fun p=> ?_)
  .rw[p,Au]at hinv
   simp[go_sem,p,ei]
   exact zG (i+1) ⟨om,⟨om,hinv⟩,aO⟩
  .rw[p,Ds]at hinv
   simp[go_sem,p]
   exact ret _ _ hinv
def mayI (n:Nat) (x:GItem):Bool:=if x.kind=1 then decide (n<=1)&&zA1 x.e else if x.kind=3 then zA1 x.e else if x.kind=2∨x.kind=4 then mayE 16 x.e else false
def yK9 (l:List GItem):Bool:=l.all (mayI l.length)&&(decide (1<=l.length)&&decide (l.length<=6))
def mayR (r:List GExpr):Bool:=(decide (1<=r.length)&&decide (r.length<=6))&&r.all (mayE 16)
def yL0 (l:List (List GExpr)):Bool:=l.all mayR&&(decide (1<=l.length)&&decide (l.length<=16))
def mayA (x:GAssign):Bool:=zi6 x.name&&mayE 16 x.e
def yK7 (l:List GAssign):Bool:=(decide (1<=l.length)&&decide (l.length<=6))&&l.all mayA
theorem bret {b M:Bool} {σ:St} (h:b=M):wret (some (.bool b)) 0 (fun r s=>r= .bool M/\s= []) σ:=by subst h;exact wR
theorem yV1 (l:List GItem) (hl:l.length<=12) (hx: ∀x∈l,i64R x.kind/\EOk x.e):Pure prog 214 [.sl .ro (l.map GItem.row)] (.bool (yK9 l)):=by
 obtain⟨n,hn⟩:=eX l.length
 generalize hM:yK9 l=M
 unfold yK9 at hM
 rw[hn]at hM
 have e1:decide ((1:Int)<=n)=decide (1<=n):=decide_eq_decide.2 om
 have e2:decide ((n:Int)<=6)=decide (n<=6):=decide_eq_decide.2 om
 have e3:decide ((1:Int)<n)= !decide (n<=1):=by
  by_cases h:n<=1
  .rw[decide_eq_true h,decide_eq_false om];rfl
  .rw[decide_eq_false h,decide_eq_true om];rfl
 refine iV 0 func214 ntmps214 results214 fun c hc hb=> ?_
 refine zA ?_
 simp[go_sem]
 refine zH (S:=Nat) [0,5,6,7] (fun i=> [.sl .ro (l.map GItem.row),.sl .ro (l.map GItem.row),.int .i64 n,.int .i64 (i:Int)]) (fun _=> []) (fun i=>n - i)
  (fun i=>i<=n/\((l.drop i).all (mayI n)&&(decide (1<=n)&&decide (n<=6)))=M) hc hb 0 ⟨A3 _,by rw[B1];exact hM⟩ ?_ ?_
 .exact at_0 rfl (zN (by simp[go_sem,hn]) rfl)
 rintro i ⟨hi,hinv⟩
 by_cases q:i<n
 rotate_left
 .rw[A9 om,Cb,Au]at hinv
  refine zA ?_
  simp[go_sem,q,hn,e1]
  refine xB (fun w=> ?_) (fun w=> ?_)
  .simp[go_sem,w,hn,e2]
   exact bret (by rw[<-hinv,w,Au])
  .simp[go_sem,w]
   exact bret (by rw[<-hinv,w];rfl)
 have hq:i<l.length:=om
 have ei:=zS q om
 rw[zH1 _ _ _ hq]at hinv
 obtain⟨x,ag⟩:=eX (l[i])
 obtain⟨hk,hE⟩:=hx x (ag▸Ab hq)
 have ah:=xa8 x.e (by have:=hE.wide.len;unfold maxLen;omega)
 have ae:=zC0 16 x.e dc hE.wide hE.good
 rw[ag]at hinv
 obtain⟨b,aa⟩:=eX (mayI n x)
 rw[aa]at hinv
 unfold mayI at aa
 have yes:b=true->((l.drop (i+1)).all (mayI n)&&(decide (1<=n)&&decide (n<=6)))=M:=fun h=>by rw[h,Au]at hinv;exact hinv
 have no:b=false->false=M:=fun h=>by rw[h]at hinv;exact hinv
 clear hinv
 generalize zA1 x.e=bl at ah aa
 generalize mayE 16 x.e=me at ae aa
 simp only[Bu]at ae
 refine zA ?_
 simp[go_sem,q,hq,ag]
 by_cases k1:x.kind=1
 .have ab:(x.kind==1)=true:=sU k1
  rw[if_pos k1]at aa
  simp[go_sem,ab,hn,e3]
  refine xB (fun w=> ?_) (fun w=> ?_)
  .have w2:decide (n<=1)=true:=sU w
   rw[w2,Au]at aa
   simp[go_sem,w2]
   refine zM ah cB (zN sg (by rw[GExpr.row_eq];rfl)) rfl ?_
   simp[go_sem]
   refine(A7 bl).elim (fun w=> ?_) (fun w=> ?_)
   .simp[go_sem,w,ei]
    exact zG (i+1) ⟨om,⟨om,yes (by rw[<-aa,w])⟩,aO⟩
   .simp[go_sem,w]
    exact bret (no (by rw[<-aa,w]))
  .have w2:decide (n<=1)=false:=sU w
   rw[w2,Ds]at aa
   simp[go_sem,w2]
   exact bret (no aa.symm)
 rw[if_neg k1]at aa
 have ab:(x.kind==1)=false:=sU k1
 by_cases k3:x.kind=3
 .have ad:(x.kind==3)=true:=sU k3
  rw[if_pos k3]at aa
  simp[go_sem,ab,ad]
  refine zM ah cB (zN sg (by rw[GExpr.row_eq];rfl)) rfl ?_
  simp[go_sem]
  refine(A7 bl).elim (fun w=> ?_) (fun w=> ?_)
  .simp[go_sem,w,ei]
   exact zG (i+1) ⟨om,⟨om,yes (by rw[<-aa,w])⟩,aO⟩
  .simp[go_sem,w]
   exact bret (no (by rw[<-aa,w]))
 rw[if_neg k3]at aa
 have ad:(x.kind==3)=false:=sU k3
 by_cases k2:x.kind=2
 .have af:(x.kind==2)=true:=sU k2
  rw[if_pos (.inl k2)]at aa
  simp[go_sem,ab,ad,af]
  refine zM ae cB (zN sg (by rw[GExpr.row_eq];rfl)) rfl ?_
  simp[go_sem]
  refine(A7 me).elim (fun w=> ?_) (fun w=> ?_)
  .simp[go_sem,w,ei]
   exact zG (i+1) ⟨om,⟨om,yes (by rw[<-aa,w])⟩,aO⟩
  .simp[go_sem,w]
   exact bret (no (by rw[<-aa,w]))
 have af:(x.kind==2)=false:=sU k2
 by_cases k4:x.kind=4
 .have ai:(x.kind==4)=true:=sU k4
  rw[if_pos (.inr k4)]at aa
  simp[go_sem,ab,ad,af,ai]
  refine zM ae cB (zN sg (by rw[GExpr.row_eq];rfl)) rfl ?_
  simp[go_sem]
  refine(A7 me).elim (fun w=> ?_) (fun w=> ?_)
  .simp[go_sem,w,ei]
   exact zG (i+1) ⟨om,⟨om,yes (by rw[<-aa,w])⟩,aO⟩
  .simp[go_sem,w]
   exact bret (no (by rw[<-aa,w]))
 have ai:(x.kind==4)=false:=sU k4
 rw[if_neg (fun h=>h.elim k2 k4)]at aa
 simp[go_sem,ab,ad,af,ai]
 exact bret (no aa.symm)
def zb9 {α:Type} (p:α->Bool):List α->Nat->Int
 | [],_=> -1
 |x::l,i=>if p x=true then(i:Int)else zb9 p l (i+1)
theorem zB2 {α:Type} (p:α->Bool): ∀(l:List α) (i:Nat),decide (0<=zb9 p l i)=l.any p
 | [],i=>rfl
 |x::l,i=>by
  rw[zb9,Dy]
  split
  .rename_i h;rw[h];exact decide_eq_true om
  .rename_i h
   have h:p x=false:=sU h
   rw[h,Bx,zB2 p l (i+1)]
theorem xW6 (x:GExpr) (hE:EOk x):Pure prog 276 [.agg x.row] (.bool (!mayE 16 x)):=by
 have aa:=zC0 16 x dc hE.wide hE.good
 generalize mayE 16 x=b at aa⊢
 simp only[Bu]at aa
 refine iW 0 func276 ntmps276 results276 fun c hc hb=>zK ?_
 simp[go_sem]
 refine zM aa cB (zN sg (by rw[GExpr.row_eq];rfl)) rfl ?_
 simp[go_sem]
 exact wR
theorem xW5 (x:GAssign) (hn:x.name.length<=maxLen) (hE:EOk x.e):Pure prog 277 [.agg x.row] (.bool (!mayA x)):=by
 have aa:=zC0 16 x.e dc hE.wide hE.good
 have hw:=zL6 x.name hn
 generalize hM:(!mayA x)=M
 unfold mayA at hM
 generalize mayE 16 x.e=b at aa hM
 generalize zi6 x.name=w at hw hM
 simp only[Bu]at aa
 refine iW 0 func277 ntmps277 results277 fun c hc hb=>zK ?_
 simp[go_sem]
 refine zM hw cB (zN sg rfl) rfl ?_
 refine(A7 w).elim (fun p=> ?_) (fun p=> ?_)
 .simp[go_sem,p]
  refine zM aa cB (zN sg (by rw[GExpr.row_eq];rfl)) rfl ?_
  simp[go_sem]
  exact bret (by rw[<-hM,p,Au])
 .simp[go_sem,p]
  exact bret (by rw[<-hM,p];rfl)
theorem xY3 (l:List GExpr) (hl:l.length<=12) (hx: ∀x∈l,EOk x):Pure prog 341 [.sl .ro (l.map GExpr.row),.fn 276 []] (.int .i64 (zb9 (fun x=> !mayE 16 x) l 0)):=by
 generalize hM:zb9 (fun x=> !mayE 16 x) l 0=M
 have ret: ∀(r:Int) (σ:St),r=M->wret (some (.int .i64 r)) 0 (fun r s=>r= .int .i64 M/\s= []) σ:=fun r σ h=>by subst h;exact wR
 refine iV 0 func341 ntmps341 results341 fun c hc hb=> ?_
 refine zA ?_
 simp[go_sem]
 refine zH (S:=Nat) [0,1,6,7,8] (fun i=> [.sl .ro (l.map GExpr.row),.fn 276 [],.sl .ro (l.map GExpr.row),.int .i64 l.length,.int .i64 (i:Int)]) (fun _=> []) (fun i=>l.length - i)
  (fun i=>i<=l.length/\zb9 (fun x=> !mayE 16 x) (l.drop i) i=M) hc hb 0 ⟨A3 _,hM⟩ ?_ ?_
 .exact aO
 rintro i ⟨hi,hinv⟩
 by_cases q:i<l.length
 rotate_left
 .rw[A9 om]at hinv
  refine zA ?_
  simp[go_sem,q]
  exact ret _ _ hinv
 have ei:=zS q om
 obtain⟨x,ab⟩:=eX (l[i])
 rw[A5 q,ab,zb9]at hinv
 have aa:=xW6 x (hx x (ab▸Ab q))
 generalize (!mayE 16 x)=b at aa hinv
 refine zA ?_
 simp[go_sem,q,ab]
 refine zM aa cB (zN sg (by rw[GExpr.row_eq];rfl)) rfl ?_
 refine(A7 b).elim (fun p=> ?_) (fun p=> ?_)
 .rw[if_pos p]at hinv
  simp[go_sem,p]
  exact ret _ _ hinv
 .rw[if_neg (by rw[p];decide)]at hinv
  simp[go_sem,p,ei]
  exact zG (i+1) ⟨om,⟨om,hinv⟩,aO⟩
theorem xX8 (l:List GExpr) (hl:l.length<=12) (hx: ∀x∈l,EOk x):Pure prog 275 [.sl .ro (l.map GExpr.row),.fn 276 []] (.bool (!l.all (mayE 16))):=by
 have h:=xY3 l hl hx
 have hg:=zB2 (fun x=> !mayE 16 x) l 0
 have ha:l.any (fun x=> !mayE 16 x)= !l.all (mayE 16):=by rw[List.all_eq_not_any_not,Bool.not_not]
 rw[ha]at hg
 rw[<-hg]
 generalize zb9 (fun x=> !mayE 16 x) l 0=n at h⊢
 refine iW 0 func275 ntmps275 results275 fun c hc hb=>zK ?_
 simp[go_sem]
 refine zM h cB (zN sg rfl) rfl ?_
 simp[go_sem]
 exact wR
theorem xY0 (l:List GAssign) (hl:l.length<=12) (hx: ∀x∈l,x.name.length<=1048576/\EOk x.e):Pure prog 278 [.sl .ro (l.map GAssign.row),.fn 277 []] (.int .i64 (zb9 (fun x=> !mayA x) l 0)):=by
 generalize hM:zb9 (fun x=> !mayA x) l 0=M
 have ret: ∀(r:Int) (σ:St),r=M->wret (some (.int .i64 r)) 0 (fun r s=>r= .int .i64 M/\s= []) σ:=fun r σ h=>by subst h;exact wR
 refine iV 0 func278 ntmps278 results278 fun c hc hb=> ?_
 refine zA ?_
 simp[go_sem]
 refine zH (S:=Nat) [0,1,6,7,8] (fun i=> [.sl .ro (l.map GAssign.row),.fn 277 [],.sl .ro (l.map GAssign.row),.int .i64 l.length,.int .i64 (i:Int)]) (fun _=> []) (fun i=>l.length - i)
  (fun i=>i<=l.length/\zb9 (fun x=> !mayA x) (l.drop i) i=M) hc hb 0 ⟨A3 _,hM⟩ ?_ ?_
 .exact aO
 rintro i ⟨hi,hinv⟩
 by_cases q:i<l.length
 rotate_left
 .rw[A9 om]at hinv
  refine zA ?_
  simp[go_sem,q]
  exact ret _ _ hinv
 have ei:=zS q om
 obtain⟨x,ab⟩:=eX (l[i])
 rw[A5 q,ab,zb9]at hinv
 obtain⟨ae,ad⟩:=hx x (ab▸Ab q)
 have aa:=xW5 x (by unfold maxLen;omega) ad
 generalize (!mayA x)=b at aa hinv
 refine zA ?_
 simp[go_sem,q,ab]
 refine zM aa cB (zN sg rfl) rfl ?_
 refine(A7 b).elim (fun p=> ?_) (fun p=> ?_)
 .rw[if_pos p]at hinv
  simp[go_sem,p]
  exact ret _ _ hinv
 .rw[if_neg (by rw[p];decide)]at hinv
  simp[go_sem,p,ei]
  exact zG (i+1) ⟨om,⟨om,hinv⟩,aO⟩
theorem xX6 (l:List GAssign) (hl:l.length<=12) (hx: ∀x∈l,x.name.length<=1048576/\EOk x.e):Pure prog 218 [.sl .ro (l.map GAssign.row),.fn 277 []] (.bool (!l.all mayA)):=by
 have h:=xY0 l hl hx
 have hg:=zB2 (fun x=> !mayA x) l 0
 have ha:l.any (fun x=> !mayA x)= !l.all mayA:=by rw[List.all_eq_not_any_not,Bool.not_not]
 rw[ha]at hg
 rw[<-hg]
 generalize zb9 (fun x=> !mayA x) l 0=n at h⊢
 refine iW 0 func218 ntmps218 results218 fun c hc hb=>zK ?_
 simp[go_sem]
 refine zM h cB (zN sg rfl) rfl ?_
 simp[go_sem]
 exact wR
theorem dec1 (n:Nat):decide ((1:Int)<=n)=decide (1<=n):=decide_eq_decide.2 om
theorem xT5 (n k:Nat):decide ((n:Int)<=k)=decide (n<=k):=decide_eq_decide.2 om
theorem xm9 (l:List (List GExpr)) (hl:l.length<=20) (hx: ∀r∈l,r.length<=12/\ ∀e∈r,EOk e):Pure prog 215 [.sl .ro (l.map fun r=> [V.sl .ro (r.map GExpr.row)])] (.bool (yL0 l)):=by
 obtain⟨n,hn⟩:=eX l.length
 generalize hM:yL0 l=M
 unfold yL0 at hM
 rw[hn]at hM
 have e1:=dec1 n
 have e2:decide ((n:Int)<=16)=decide (n<=16):=xT5 n 16
 refine iV 0 func215 ntmps215 results215 fun c hc hb=> ?_
 refine zA ?_
 simp[go_sem]
 refine zH (S:=Nat) [0,5,6,7] (fun i=> [.sl .ro (l.map fun r=> [V.sl .ro (r.map GExpr.row)]),.sl .ro (l.map fun r=> [V.sl .ro (r.map GExpr.row)]),.int .i64 n,.int .i64 (i:Int)]) (fun _=> []) (fun i=>n - i)
  (fun i=>i<=n/\((l.drop i).all mayR&&(decide (1<=n)&&decide (n<=16)))=M) hc hb 0 ⟨A3 _,by rw[B1];exact hM⟩ ?_ ?_
 .exact at_0 rfl (zN (by simp[go_sem,hn]) rfl)
 rintro i ⟨hi,hinv⟩
 by_cases q:i<n
 rotate_left
 .rw[A9 om,Cb,Au]at hinv
  refine zA ?_
  simp[go_sem,q,hn,e1]
  refine xB (fun w=> ?_) (fun w=> ?_)
  .simp[go_sem,w,hn,e2]
   exact bret (by rw[<-hinv,w,Au])
  .simp[go_sem,w]
   exact bret (by rw[<-hinv,w];rfl)
 have hq:i<l.length:=om
 have ei:=zS q om
 rw[zH1 _ _ _ hq]at hinv
 obtain⟨r,hr⟩:=eX (l[i])
 obtain⟨af,ag⟩:=hx r (hr▸Ab hq)
 have ab:=xX8 r af ag
 rw[hr]at hinv
 obtain⟨b,aa⟩:=eX (mayR r)
 rw[aa]at hinv
 unfold mayR at aa
 have yes:b=true->((l.drop (i+1)).all mayR&&(decide (1<=n)&&decide (n<=16)))=M:=fun h=>by rw[h,Au]at hinv;exact hinv
 have no:b=false->false=M:=fun h=>by rw[h]at hinv;exact hinv
 clear hinv
 generalize r.all (mayE 16)=ra at ab aa
 have ad:((r.length:Int)==0)= !decide (1<=r.length):=by
  cases r with
  |nil=>rfl
  |cons _ _=>rw[decide_eq_true sM];simp;omega
 have ae:decide ((6:Int)<r.length)= !decide (r.length<=6):=by
  by_cases h:r.length<=6
  .rw[decide_eq_true h,decide_eq_false om];rfl
  .rw[decide_eq_false h,decide_eq_true om];rfl
 generalize decide (1<=r.length)=d1 at ad aa
 generalize decide (r.length<=6)=d2 at ae aa
 refine zA ?_
 simp[go_sem,q,hq,hr,ad]
 refine(A7 d1).elim (fun w=> ?_) (fun w=> ?_)
 rotate_left
 .simp[go_sem,w]
  exact bret (no (by rw[<-aa,w];rfl))
 simp[go_sem,w,ae]
 refine(A7 d2).elim (fun w2=> ?_) (fun w2=> ?_)
 rotate_left
 .simp[go_sem,w2]
  exact bret (no (by rw[<-aa,w,w2];rfl))
 simp[go_sem,w2]
 refine zM ab cB (zN sg rfl) rfl ?_
 simp[go_sem]
 refine(A7 ra).elim (fun w3=> ?_) (fun w3=> ?_)
 .simp[go_sem,w3,ei]
  exact zG (i+1) ⟨om,⟨om,yes (by rw[<-aa,w,w2,w3];rfl)⟩,aO⟩
 .simp[go_sem,w3]
  exact bret (no (by rw[<-aa,w,w2,w3];rfl))
theorem xn0 (l:List GAssign) (hl:l.length<=12) (hx: ∀x∈l,x.name.length<=1048576/\EOk x.e):Pure prog 216 [.sl .ro (l.map GAssign.row)] (.bool (yK7 l)):=by
 have aa:=xX6 l hl hx
 generalize hM:yK7 l=M
 unfold yK7 at hM
 generalize l.all mayA=a at aa hM
 obtain⟨n,hn⟩:=eX l.length
 rw[hn]at hM
 have e1:=dec1 n
 have e2:decide ((n:Int)<=6)=decide (n<=6):=xT5 n 6
 refine iW 0 func216 ntmps216 results216 fun c hc hb=>zK ?_
 simp[go_sem,hn,e1]
 refine xB (fun w=> ?_) (fun w=> ?_)
 rotate_left
 .simp[go_sem,w]
  exact bret (by rw[<-hM,w];rfl)
 simp[go_sem,w,hn,e2]
 refine xB (fun w2=> ?_) (fun w2=> ?_)
 rotate_left
 .simp[go_sem,w2]
  exact bret (by rw[<-hM,w,w2];rfl)
 simp[go_sem,w2]
 refine zM aa cB (zN sg rfl) rfl ?_
 simp[go_sem]
 exact bret (by rw[<-hM,w,w2];rfl)
def xE5 (st:GStmt):Bool:=
 !((!(st.kind==1)&&(!st.items.isEmpty||(!st.order.isEmpty||(st.down|| !(st.limit==0)))))||((!(st.kind==2)&& !st.rows.isEmpty)||(!(st.kind==3)&& !st.sets.isEmpty)))
def xU1 (st:GStmt):Bool:=zi6 st.table&&(if st.filtered=true then mayE 16 st.where_ else zA1 st.where_)
def xt4 (st:GStmt):Bool:=
 if st.kind=1 then yK9 st.items&&(((st.order.isEmpty&& !st.down)||zi6 st.order)&&decide (-1<=st.limit))
 else if st.kind=2 then yL0 st.rows&& !st.filtered
 else if st.kind=3 then yK7 st.sets
 else st.kind==4
def mayS (st:GStmt):Bool:=xU1 st&&(xE5 st&&xt4 st)
theorem zW3 {α:Type} (l:List α):decide (0<l.length)= !l.isEmpty:=by
 cases l with
 |nil=>rfl
 |cons _ _=>exact decide_eq_true (by simp only[Aa];omega)
theorem xn1 (st:GStmt) (hs:SOk st):Pure prog 140 [.agg st.row] (.bool (mayS st)):=by
 have ai:=zL6 st.table (by have:=hs.table;unfold maxLen;omega)
 have aj:=zL6 st.order (by have:=hs.order;unfold maxLen;omega)
 have af:=zC0 16 st.where_ dc hs.where_.wide hs.where_.good
 have ak:=xa8 st.where_ (by have:=hs.where_.wide.len;unfold maxLen;omega)
 have hit:=yV1 st.items hs.items.1 hs.items.2
 have al:=xm9 st.rows hs.rows.1 hs.rows.2
 have an:=xn0 st.sets hs.sets.1 hs.sets.2
 simp only[Bu]at af
 generalize hM:mayS st=M
 unfold mayS xU1 xE5 xt4 at hM
 obtain⟨k,hk⟩:=eX st.kind
 obtain⟨f,hf⟩:=eX st.filtered
 obtain⟨d,hd⟩:=eX st.down
 rw[hk,hf,hd]at hM
 generalize zi6 st.table=wt at ai hM
 generalize zi6 st.order=wo at aj hM
 generalize mayE 16 st.where_=me at af hM
 generalize zA1 st.where_=bl at ak hM
 generalize yK9 st.items=mi at hit hM
 generalize yL0 st.rows=mr at al hM
 generalize yK7 st.sets=ms at an hM
 have ao:=zW3 st.items
 have aq:=zW3 st.rows
 have ar:=zW3 st.sets
 have a1:(st.order != [])= !st.order.isEmpty:=by cases st.order<;>rfl
 have ay:(st.order== [])=st.order.isEmpty:=by cases st.order<;>rfl
 generalize st.items.isEmpty=ie at ao hM
 generalize st.rows.isEmpty=re at aq hM
 generalize st.sets.isEmpty=se at ar hM
 have hz: ∀b:Bool,b=M-> ∀σ:St,wret (some (.bool b)) 0 (fun r s=>r= .bool M/\s= []) σ:=fun b h σ=>bret h
 have ag:((wt&&(if f=true then me else bl))=false->false=M)/\((wt&&(if f=true then me else bl))=true->(!((!(k==1)&&(!ie||(!st.order.isEmpty||(d|| !(st.limit==0)))))||((!(k==2)&& !re)||(!(k==3)&& !se)))&&(if k=1 then mi&&(((st.order.isEmpty&& !d)||wo)&&decide (-1<=st.limit))else if k=2 then mr&& !f else if k=3 then ms else k==4))=M):=by
  constructor
  .intro h;rw[h]at hM;exact hM
  .intro h;rw[h,Au]at hM;exact hM
 obtain⟨ab,ae⟩:=ag
 clear hM
 refine iV 0 func140 ntmps140 results140 fun c hc hb=> ?_
 refine zP (zA ?_)
 simp[go_sem]
 refine zg2 (S:=Unit) [1] (fun _=> [.ptr 0 0]) (fun _=> [.box st.row]) (fun _=>(wt&&(if f=true then me else bl))=true) hc hb ?_ ?_
 .refine zA ?_
  simp[go_sem]
  refine zM ai cB (zN sg rfl) rfl ?_
  refine(A7 wt).elim (fun w=> ?_) (fun w=> ?_)
  rotate_left
  .simp[go_sem,w]
   exact bret (ab (by rw[w];rfl))
  simp[go_sem,w,hf]
  refine(A7 f).elim (fun w2=> ?_) (fun w2=> ?_)
  .simp[go_sem,w2]
   refine zM af cB (zN sg (by rw[GExpr.row_eq];rfl)) rfl ?_
   refine(A7 me).elim (fun w3=> ?_) (fun w3=> ?_)
   .simp[go_sem,w3,w2]
    exact zG () ⟨by rw[w,w2,w3];rfl,at_n 1 (by simp[go_sem,hk,hf,hd,w2]) rfl (by simp[ltOb,ltC,ltK]) (A3 _) (zF sg rfl)⟩
   .simp[go_sem,w3]
    exact bret (ab (by rw[w,w2,w3];rfl))
  .simp[go_sem,w2]
   refine zM ak cB (zN sg (by rw[GExpr.row_eq];rfl)) rfl ?_
   refine(A7 bl).elim (fun w3=> ?_) (fun w3=> ?_)
   .simp[go_sem,w3]
    exact zG () ⟨by rw[w,w2,w3];rfl,at_n 1 (by simp[go_sem,hk,hf,hd,w2]) rfl (by simp[ltOb,ltC,ltK]) (A3 _) (zF sg rfl)⟩
   .simp[go_sem,w3]
    exact bret (ab (by rw[w,w2,w3];rfl))
 .rintro _ h1
  have hM:=ae h1
  clear ab ae
  generalize hB:(if k=1 then mi&&(((st.order.isEmpty&& !d)||wo)&&decide (-1<=st.limit))else if k=2 then mr&& !f else if k=3 then ms else k==4)=B at hM
  obtain⟨S,hS⟩:=eX (((!(k==1)&&(!ie||(!st.order.isEmpty||(d|| !(st.limit==0)))))||((!(k==2)&& !re)||(!(k==3)&& !se))))
  rw[hS]at hM
  have no:S=true->false=M:=fun h=>by rw[h]at hM;exact hM
  have yes:S=false->B=M:=fun h=>by rw[h]at hM;exact hM
  clear hM
  have au:(st.limit !=0)= !(st.limit==0):=rfl
  have av:(st.kind !=2)= !(k==2):=by rw[hk];rfl
  have aw:(st.kind !=3)= !(k==3):=by rw[hk];rfl
  have ax:(st.kind==1)=(k==1):=by rw[hk]
  refine zP (zA ?_)
  simp[go_sem]
  refine zg2 (S:=Unit) [1] (fun _=> [.ptr 0 0]) (fun _=> [.box st.row]) (fun _=>S=false) hc hb ?_ ?_
  .generalize (st.limit==0)=l0 at au hS
   generalize (k==1)=k1 at ax hS
   generalize (k==2)=k2 at av hS
   generalize (k==3)=k3 at aw hS
   clear yes hB
   refine zA ?_
   simp[go_sem,ax]
   repeat' (first
    |(refine xB (fun w=> ?_) (fun w=> ?_)<;>simp[go_sem,w,av,aw,au,ao,aq,ar,hd])
    |(refine zR (fun w=> ?_) (fun w=> ?_)<;>simp[go_sem,w]))
   all_goals first
    |exact bret (no (by rw[<-hS];simp_all))
    |exact zG () ⟨by rw[<-hS];simp_all,at_n 1 (by simp[go_sem,hd]<;>simp_all) rfl (by simp[ltOb,ltC,ltK]) (A3 _) (zF sg rfl)⟩
  .rintro _ az
   have hM:=yes az
   rw[<-hB]at hM
   clear yes no hS hB
   refine zA ?_
   simp[go_sem,hk]
   by_cases k1:k=1
   .have aa:(k==1)=true:=sU k1
    rw[if_pos k1]at hM
    have a6:decide (-1<=st.limit)=decide (-1<=st.limit):=rfl
    simp[go_sem,aa]
    refine zM hit cB (zN sg rfl) rfl ?_
    simp[go_sem]
    repeat' (first
     |(refine xB (fun w=> ?_) (fun w=> ?_)<;>simp[go_sem,w,ay,hd])
     |(refine zM aj cB (zN sg rfl) rfl ?_;simp[go_sem]))
    all_goals exact bret (by rw[<-hM];simp_all)
   have aa:(k==1)=false:=sU k1
   rw[if_neg k1]at hM
   by_cases k2:k=2
   .have ad:(k==2)=true:=sU k2
    rw[if_pos k2]at hM
    simp[go_sem,aa,ad]
    refine zM al cB (zN sg rfl) rfl ?_
    simp[go_sem]
    refine(A7 mr).elim (fun w=> ?_) (fun w=> ?_)
    .simp[go_sem,w,hf]
     exact bret (by rw[<-hM,w];rfl)
    .simp[go_sem,w]
     exact bret (by rw[<-hM,w];rfl)
   have ad:(k==2)=false:=sU k2
   rw[if_neg k2]at hM
   by_cases k3:k=3
   .have ah:(k==3)=true:=sU k3
    rw[if_pos k3]at hM
    simp[go_sem,aa,ad,ah]
    refine zM an cB (zN sg rfl) rfl ?_
    simp[go_sem]
    exact bret hM
   have ah:(k==3)=false:=sU k3
   rw[if_neg k3]at hM
   simp[go_sem,aa,ad,ah]
   exact bret hM
def xU0 (l:GLot):Bool:=(decide (0<=l.mode)&&(decide (l.mode<=2)&&(decide (0<=l.n)&&(!(l.mode==0&& !(l.n==0))))))&&(decide (1<=l.stmts.length)&&decide (l.stmts.length<=8))
def mayL (l:GLot):Bool:=xU0 l&&l.stmts.all mayS
theorem xq8 (l:GLot) (hl:LOk l):Pure prog 84 [.agg l.row] (.bool (mayL l)):=by
 obtain⟨L,hL⟩:=eX l.stmts
 obtain⟨m,hm⟩:=eX l.mode
 obtain⟨n,hn⟩:=eX l.n
 obtain⟨ag,ae⟩:=hl.stmts
 rw[hL]at ag ae
 generalize hM:mayL l=M
 unfold mayL xU0 at hM
 rw[hL,hm,hn]at hM
 have no: ∀h:Bool,(h&&L.all mayS)=M->h=false->false=M:=fun h q w=>by rw[w]at q;exact q
 refine iV 0 func84 ntmps84 results84 fun c hc hb=> ?_
 refine zP (zA ?_)
 simp[go_sem]
 refine zg2 (S:=Unit) [1] (fun _=> [.ptr 0 0]) (fun _=> [.box l.row]) (fun _=>L.all mayS=M) hc hb ?_ ?_
 .have d1:decide (m<0)= !decide (0<=m):=by
   by_cases h:0<=m
   .rw[decide_eq_true h,decide_eq_false om];rfl
   .rw[decide_eq_false h,decide_eq_true om];rfl
  have d2:decide (2<m)= !decide (m<=2):=by
   by_cases h:m<=2
   .rw[decide_eq_true h,decide_eq_false om];rfl
   .rw[decide_eq_false h,decide_eq_true om];rfl
  have d3:decide (n<0)= !decide (0<=n):=by
   by_cases h:0<=n
   .rw[decide_eq_true h,decide_eq_false om];rfl
   .rw[decide_eq_false h,decide_eq_true om];rfl
  have d4:((L.length:Int)==0)= !decide (1<=L.length):=by
   by_cases h:1<=L.length
   .rw[decide_eq_true h];simp;intro hh;rw[hh]at h;simp at h
   .rw[decide_eq_false h]
    have:L= []:=B4 om
    rw[this];rfl
  have d5:decide ((8:Int)<L.length)= !decide (L.length<=8):=by
   by_cases h:L.length<=8
   .rw[decide_eq_true h,decide_eq_false om];rfl
   .rw[decide_eq_false h,decide_eq_true om];rfl
  have d6:(n !=0)= !(n==0):=rfl
  generalize decide (0<=m)=b1 at d1 hM
  generalize decide (m<=2)=b2 at d2 hM
  generalize decide (0<=n)=b3 at d3 hM
  generalize decide (1<=L.length)=b4 at d4 hM
  generalize decide (L.length<=8)=b5 at d5 hM
  generalize (n==0)=b6 at d6 hM
  have af:=no _ hM
  have ab:((b1&&(b2&&(b3&&(!(m==0&& !b6)))))&&(b4&&b5))=true->L.all mayS=M:=fun h=>by rw[h,Au]at hM;exact hM
  generalize ah:(m==0)=b7 at af ab
  clear hM no
  refine zA ?_
  simp[go_sem,hm,hn,hL,d1]
  repeat' (first
   |(refine xB (fun w=> ?_) (fun w=> ?_)<;>simp[go_sem,w,ah,d2,d3,d4,d5,d6])
   |(refine zR (fun w=> ?_) (fun w=> ?_)<;>simp[go_sem,w]))
  all_goals first
   |exact bret (af (by simp_all))
   |exact zG () ⟨ab (by simp_all),at_n 1 (by simp[go_sem,hm,hn,hL]) rfl (by simp[ltOb,ltC,ltK]) (A3 _) (zF sg rfl)⟩
 .rintro _ hM
  refine zA ?_
  simp[go_sem,hL]
  refine zH (S:=Nat) [41,42,43] (fun i=> [.sl .ro (L.map GStmt.row),.int .i64 L.length,.int .i64 (i:Int)]) (fun _=> []) (fun i=>L.length - i) (fun i=>i<=L.length/\(L.drop i).all mayS=M) hc hb 0 ⟨A3 _,by rw[B1];exact hM⟩ ?_ ?_
  .exact aO
  rintro i ⟨hi,hinv⟩
  by_cases q:i<L.length
  rotate_left
  .rw[A9 om]at hinv
   refine zA ?_
   simp[go_sem,q]
   exact bret hinv
  have ei:=zS q om
  rw[zH1 _ _ _ q]at hinv
  obtain⟨st,ad⟩:=eX (L[i])
  have aa:=xn1 st (ae st (ad▸Ab q))
  rw[ad]at hinv
  generalize mayS st=b at aa hinv
  refine zA ?_
  simp[go_sem,q,ad]
  refine zM aa cB (zN sg rfl) rfl ?_
  refine(A7 b).elim (fun p=> ?_) (fun p=> ?_)
  .rw[p,Au]at hinv
   simp[go_sem,p,ei]
   exact zG (i+1) ⟨om,⟨om,hinv⟩,aO⟩
  .rw[p,Ds]at hinv
   simp[go_sem,p]
   exact bret hinv
def zv6 (T:GTable) (e:GExpr) (want:Int):Int:=if(zb3 T e).2≠0 then(zb3 T e).2 else if(zb3 T e).1≠want/\(zb3 T e).1≠0 then 15 else 0
theorem iret {b M:Int} {σ:St} (h:b=M):wret (some (.int .i64 b)) 0 (fun r s=>r= .int .i64 M/\s= []) σ:=by subst h;exact wR
theorem yc8 (T:GTable) (hT:T.cols.length<=maxLen) (e:GExpr) (he:EOk e) (want:Int):Pure prog 217 [.agg T.row,.agg e.row,.int .i64 want] (.int .i64 (zv6 T e want)):=by
 have h:=yx3 T hT e he
 generalize hM:zv6 T e want=M
 unfold zv6 at hM
 generalize zb3 T e=k at h hM
 refine iW 0 func217 ntmps217 results217 fun c hc hb=>zK ?_
 simp[go_sem]
 refine zM h cB (zN sg (by rw[GExpr.row_eq];rfl)) rfl ?_
 simp[go_sem,wK]
 by_cases q1:k.2=0
 rotate_left
 .have aa:(k.2 !=0)=true:=sU q1
  rw[if_pos q1]at hM
  simp[go_sem,aa]
  exact iret hM
 have aa:(k.2 !=0)=false:=sU q1
 rw[if_neg (fun h=>h q1)]at hM
 simp[go_sem,aa]
 by_cases q2:k.1=want
 .have ab:(k.1 !=want)=false:=sU q2
  rw[if_neg (fun h=>h.1 q2)]at hM
  simp[go_sem,ab]
  exact iret hM
 have ab:(k.1 !=want)=true:=sU q2
 simp[go_sem,ab]
 by_cases q3:k.1=0
 .have ad:(k.1 !=0)=false:=sU q3
  rw[if_neg (fun h=>h.2 q3)]at hM
  simp[go_sem,ad]
  exact iret hM
 .have ad:(k.1 !=0)=true:=sU q3
  rw[if_pos ⟨q2,q3⟩]at hM
  simp[go_sem,ad]
  exact iret hM
def zJ9 (T:GTable) (st:GStmt):Int:=if st.filtered=true then zv6 T st.where_ 1 else 0
theorem yQ9 (T:GTable) (hT:T.cols.length<=maxLen) (st:GStmt) (hs:SOk st):Pure prog 144 [.agg T.row,.agg st.row] (.int .i64 (zJ9 T st)):=by
 have h:=yc8 T hT st.where_ hs.where_ 1
 generalize hM:zJ9 T st=M
 unfold zJ9 at hM
 generalize zv6 T st.where_ 1=k at h hM
 refine iW 0 func144 ntmps144 results144 fun c hc hb=>zK ?_
 simp[go_sem]
 refine(A7 st.filtered).elim (fun w=> ?_) (fun w=> ?_)
 .rw[if_pos w]at hM
  simp[go_sem,w]
  refine zM h cB (zN sg (by rw[GExpr.row_eq];rfl)) rfl ?_
  simp[go_sem]
  exact iret hM
 .rw[if_neg (by rw[w];decide)]at hM
  simp[go_sem,w]
  exact iret hM
def yt3 (T:GTable) (x:GItem):Int:=if x.kind=2 then(zb3 T x.e).2 else if x.kind=4 then zv6 T x.e 2 else 0
def zp3 (T:GTable):List GItem->Int
 | []=>0
 |x::l=>if yt3 T x≠0 then yt3 T x else zp3 T l
def zw7 (l:List GItem):Bool:=l.any fun x=>x.kind==2
def zs8 (l:List GItem):Bool:=l.any fun x=>x.kind==3||x.kind==4
def endC (T:GTable) (st:GStmt):Int:=if st.order.isEmpty=true then 0 else if colF T st.order<0 then 14 else if zs8 st.items=true then 9 else 0
def yc2 (T:GTable) (st:GStmt):Int:=
 if zp3 T st.items≠0 then zp3 T st.items else if(zw7 st.items&&zs8 st.items)=true then 9 else if zJ9 T st≠0 then zJ9 T st else endC T st
theorem xu3 (T:GTable) (hT:T.cols.length<=maxLen) (st:GStmt) (hs:SOk st):Pure prog 141 [.agg T.row,.agg st.row] (.int .i64 (yc2 T st)):=by
 obtain⟨L,hL⟩:=eX st.items
 obtain⟨an,ai⟩:=hs.items
 rw[hL]at an ai
 have ah:=yQ9 T hT st hs
 have af:=yq5 T st.order hT
 rw[show zf5 (fun c:GCol=>c.name==st.order) T.cols 0=colF T st.order from rfl]at af
 generalize hM:yc2 T st=M
 unfold yc2 endC at hM
 rw[hL]at hM
 refine iV 0 func141 ntmps141 results141 fun c hc hb=> ?_
 refine zP (zA ?_)
 simp[go_sem]
 refine zP (zA ?_)
 simp[go_sem]
 refine zg2 (S:=Unit) [2,3,5,6] (fun _=> [.ptr 0 0,.ptr 1 0,.bool (zw7 L),.bool (zs8 L)]) (fun _=> [.box T.row,.box st.row]) (fun _=>zp3 T L=0) hc hb ?_ ?_
 .refine zP (zA ?_)
  simp[go_sem,hL]
  refine zh3 ?_
  refine zH (S:=Nat×Bool×Bool) [2,3,5,6,12,13,14] (fun u=> [.ptr 0 0,.ptr 1 0,.bool u.2.1,.bool u.2.2,.sl .ro (L.map GItem.row),.int .i64 L.length,.int .i64 (u.1:Int)]) (fun _=> [.box T.row,.box st.row]) (fun u=>L.length - u.1)
   (fun u=>u.1<=L.length/\(u.2.1||zw7 (L.drop u.1))=zw7 L/\(u.2.2||zs8 (L.drop u.1))=zs8 L/\zp3 T (L.drop u.1)=zp3 T L) hc hb (0,false,false) ⟨A3 _,sM,sM,sM⟩ ?_ ?_
  .exact at_n 2 (by simp[go_sem,hL]) rfl (by simp[ltOb,ltC,ltK,GTable.row,GStmt.row]) (A3 _) (zF sg rfl)
  rintro⟨i,pl,wh⟩ ⟨hi,hp,hw,hinv⟩
  simp only at hi hp hw hinv
  by_cases q:i<L.length
  rotate_left
  .rw[A9 om]at hp hw hinv
   have hp:pl=zw7 L:=by rw[<-hp];exact(E7 _).symm
   have hw:wh=zs8 L:=by rw[<-hw];exact(E7 _).symm
   refine zA ?_
   simp[go_sem,q]
   exact zG () ⟨hinv.symm,aM 2 (by simp[ltOb,ltC,ltK]) (zF (by simp[go_sem,hp,hw]) rfl)⟩
  have ei:=zS q om
  obtain⟨x,hx⟩:=eX (L[i])
  have hE:=(ai x (hx▸Ab q)).2
  rw[A5 q,hx]at hp hw hinv
  unfold zw7 at hp
  unfold zs8 at hw
  rw[Dy]at hp hw
  rw[zp3]at hinv
  have bad:yt3 T x≠0->yt3 T x=M:=fun h=>by
   rw[if_pos h]at hinv
   rw[<-hM,<-hinv,if_pos h]
  have good:yt3 T x=0->zp3 T (L.drop (i+1))=zp3 T L:=fun h=>by
   rw[if_neg (fun g=>g h)]at hinv
   exact hinv
  clear hinv
  unfold yt3 at bad good
  have aj:=yx3 T hT x.e hE
  have ak:=yc8 T hT x.e hE 2
  generalize zb3 T x.e=ty at aj bad good
  generalize zv6 T x.e 2=kc at ak bad good
  have go: ∀(a b:Bool) (e σ),(a||zw7 (L.drop (i+1)))=zw7 L->(b||zs8 (L.drop (i+1)))=zs8 L->zp3 T (L.drop (i+1))=zp3 T L->At 0 [2,3,5,6,12,13,14] [.ptr 0 0,.ptr 1 0,.bool a,.bool b,.sl .ro (L.map GItem.row),.int .i64 L.length,.int .i64 ((i+1:Nat):Int)] [.box T.row,.box st.row] e σ->
   Vx.Next (fun s':Nat×Bool×Bool=>L.length - s'.1<L.length - i/\(s'.1<=L.length/\(s'.2.1||zw7 (L.drop s'.1))=zw7 L/\(s'.2.2||zs8 (L.drop s'.1))=zs8 L/\zp3 T (L.drop s'.1)=zp3 T L)/\At 0 [2,3,5,6,12,13,14] [.ptr 0 0,.ptr 1 0,.bool s'.2.1,.bool s'.2.2,.sl .ro (L.map GItem.row),.int .i64 L.length,.int .i64 (s'.1:Int)] [.box T.row,.box st.row] e σ) fx:=fun a b e σ h1 h2 h3 h4=>
    zG (i+1,a,b) ⟨by simp only;omega,⟨by simp only;omega,h1,h2,h3⟩,h4⟩
  refine zA ?_
  simp[go_sem,q,hx]
  by_cases k2:x.kind=2
  .have ab:(x.kind==2)=true:=sU k2
   rw[if_pos k2]at bad good
   have ao:(x.kind==3||x.kind==4)=false:=by rw[k2];rfl
   simp only[ab,Dd,E4]at hp
   simp only[ao,Bx]at hw
   simp[go_sem,ab]
   refine zM aj cB (zN sg (by rw[GExpr.row_eq];rfl)) rfl ?_
   by_cases qe:ty.2=0
   .have aa:(ty.2 !=0)=false:=sU qe
    simp[go_sem,wK,aa,ei]
    exact go true wh _ _ (by rw[Dd];exact hp) hw (good qe) (aN 2 (by simp[ltOb,ltC,ltK,GTable.row,GStmt.row]))
   .have aa:(ty.2 !=0)=true:=sU qe
    simp[go_sem,wK,aa]
    exact iret (bad qe)
  rw[if_neg k2]at bad good
  have ab:(x.kind==2)=false:=sU k2
  simp only[ab,Bx]at hp
  by_cases k4:x.kind=4
  .have ae:(x.kind==4)=true:=sU k4
   rw[if_pos k4]at bad good
   simp only[ae,Dd,E4]at hw
   simp[go_sem,ab,ae]
   refine zM ak cB (zN sg (by rw[GExpr.row_eq];rfl)) rfl ?_
   by_cases qe:kc=0
   .have aa:(kc !=0)=false:=sU qe
    simp[go_sem,aa,ei]
    exact go pl true _ _ hp (by rw[Dd];exact hw) (good qe) (aN 2 (by simp[ltOb,ltC,ltK,GTable.row,GStmt.row]))
   .have aa:(kc !=0)=true:=sU qe
    simp[go_sem,aa]
    exact iret (bad qe)
  rw[if_neg k4]at bad good
  have ae:(x.kind==4)=false:=sU k4
  by_cases k3:x.kind=3
  .have ag:(x.kind==3)=true:=sU k3
   simp only[ag,Dd,E4]at hw
   simp[go_sem,ab,ae,ag,ei]
   exact go pl true _ _ hp (by rw[Dd];exact hw) (good rfl) (aN 2 (by simp[ltOb,ltC,ltK,GTable.row,GStmt.row]))
  .have ag:(x.kind==3)=false:=sU k3
   simp only[ag,ae,Bx]at hw
   simp[go_sem,ab,ae,ag,ei]
   exact go pl wh _ _ hp hw (good rfl) (aN 2 (by simp[ltOb,ltC,ltK,GTable.row,GStmt.row]))
 .rintro _ hI
  rw[if_neg (fun h=>h hI)]at hM
  generalize zw7 L=pl at hM⊢
  generalize zs8 L=wh at hM⊢
  generalize zJ9 T st=wc at ah hM
  have al:(st.order== [])=st.order.isEmpty:=by cases st.order<;>rfl
  refine zA ?_
  simp[go_sem]
  refine(A7 (pl&&wh)).elim (fun w=> ?_) (fun w=> ?_)
  .rw[if_pos w]at hM
   have w1:pl=true:=by cases pl<;>simp_all
   have w2:wh=true:=by cases wh<;>simp_all
   simp[go_sem,w1,w2]
   exact iret hM
  rw[if_neg (by rw[w];decide)]at hM
  refine xB (fun w1=> ?_) (fun w1=> ?_)
  .have w2:wh=false:=by cases wh<;>simp_all
   simp[go_sem,w1,w2]
   refine zM ah cB (zN sg rfl) rfl ?_
   by_cases qe:wc=0
   rotate_left
   .have aa:(wc !=0)=true:=sU qe
    rw[if_pos qe]at hM
    simp[go_sem,aa]
    exact iret hM
   have aa:(wc !=0)=false:=sU qe
   rw[if_neg (fun h=>h qe)]at hM
   simp[go_sem,aa,al]
   refine(A7 st.order.isEmpty).elim (fun w3=> ?_) (fun w3=> ?_)
   .rw[if_pos w3]at hM
    simp[go_sem,w3]
    exact iret hM
   rw[if_neg (by rw[w3];decide)]at hM
   simp[go_sem,w3]
   refine zM af cB (zN sg rfl) rfl ?_
   by_cases qc:colF T st.order<0
   .have ad:decide (colF T st.order<0)=true:=decide_eq_true qc
    rw[if_pos qc]at hM
    simp[go_sem,ad]
    exact iret hM
   have ad:decide (colF T st.order<0)=false:=decide_eq_false qc
   rw[if_neg qc]at hM
   simp[go_sem,ad]
   rw[if_neg (by rw[w2];decide)]at hM
   exact iret hM
  .have w1:pl=false:=sU w1
   simp[go_sem,w1]
   refine zM ah cB (zN sg rfl) rfl ?_
   by_cases qe:wc=0
   rotate_left
   .have aa:(wc !=0)=true:=sU qe
    rw[if_pos qe]at hM
    simp[go_sem,aa]
    exact iret hM
   have aa:(wc !=0)=false:=sU qe
   rw[if_neg (fun h=>h qe)]at hM
   simp[go_sem,aa,al]
   refine(A7 st.order.isEmpty).elim (fun w3=> ?_) (fun w3=> ?_)
   .rw[if_pos w3]at hM
    simp[go_sem,w3]
    exact iret hM
   rw[if_neg (by rw[w3];decide)]at hM
   simp[go_sem,w3]
   refine zM af cB (zN sg rfl) rfl ?_
   by_cases qc:colF T st.order<0
   .have ad:decide (colF T st.order<0)=true:=decide_eq_true qc
    rw[if_pos qc]at hM
    simp[go_sem,ad]
    exact iret hM
   have ad:decide (colF T st.order<0)=false:=decide_eq_false qc
   rw[if_neg qc]at hM
   simp[go_sem,ad]
   refine(A7 wh).elim (fun w4=> ?_) (fun w4=> ?_)
   .rw[if_pos w4]at hM
    simp[go_sem,w4]
    exact iret hM
   .rw[if_neg (by rw[w4];decide)]at hM
    simp[go_sem,w4]
    exact iret hM
theorem yG7 (x:Int):Pure prog 188 [.int .i64 x] (.bool false):=by
 refine iW 0 func188 ntmps188 results188 fun c hc hb=>zK ?_
 simp[go_sem]
 exact wR
def cmpI (x y:Int):Int:=if x<y then -1 else if x>y then 1 else 0
theorem yG6 (x y:Int):Pure prog 119 [.int .i64 x,.int .i64 y] (.int .i64 (cmpI x y)):=by
 generalize hM:cmpI x y=M
 have ret: ∀(r:Int) (σ:St),r=M->wret (some (.int .i64 r)) 0 (fun r s=>r= .int .i64 M/\s= []) σ:=fun r σ h=>by subst h;exact wR
 unfold cmpI at hM
 refine iW 0 func119 ntmps119 results119 fun c hc hb=>zK ?_
 simp[go_sem]
 refine pC (yG7 x) ?_
 simp[go_sem]
 refine pC (yG7 y) ?_
 simp[go_sem]
 repeat' (first|(refine zR (fun q=> ?_) (fun q=> ?_)<;>simp[go_sem,q]))
 all_goals exact ret _ _ (by rw[<-hM];simp only[decide_eq_true_eq,decide_eq_false_iff_not]at*;(repeat' split)<;>omega)
end Go.Proofs.YtefbicjgbaaieaaGreat
namespace Go.Proofs.YtefbicjgbaaieaaGreat
open Go Go.Vx Go.Proofs.Tryz
set_option maxRecDepth 100000
end Go.Proofs.YtefbicjgbaaieaaGreat
namespace Go.Proofs.YtefbicjgbaaieaaGreat
open Go Go.Vx Go.Proofs.Tryz
set_option maxRecDepth 100000
set_option maxHeartbeats 1000000
end Go.Proofs.YtefbicjgbaaieaaGreat
namespace Go.Proofs.YtefbicjgbaaieaaGreat
open Go Go.Vx R Go.Proofs.Tryz
set_option maxRecDepth 100000
section
variable {b:List V} {rows:List (List V)} {A:List Nat} {τ:St}
end
theorem zs2 (id off s:Nat) (cells:List V) {P:Program} {c:Ctx} {nt:Nat} {e:Env} {σ:St} {Q:QT} {y:Code} (h0:0<s) (hσ:σ[id]? =some (.box cells)) (hc:cells[off]? =some (.sl .full []))
  (hy:wVW P c nt y Q fx fx e (σ.set id (.box (cells.set off (.lsv σ.length s 0 0 0)))++ [.lst [] s])):wVW P c nt y Q fx fx e σ:=by
 intro a w L β hs
 obtain⟨x,h1,h2⟩:=xe7 hs.mem h0 hσ hc
 exact hy a w L (β++ [x]) ⟨h1,hs.size,hs.defs,fun k=>(hs.env k).mono (Le.refl _ _) h2⟩
def zc6 (name:List UInt8):Int:=zf5 (fun T:GTable=>T.name==name) tabsS 0
theorem yx7: ∀(n:Nat) (q l:List GExpr),(bfs n q l).length<=l.length+n
 |0,_,_=>A4 _
 |n+1,[],l=>by rw[bfs];omega
 |n+1,e::q,l=>by
  rw[bfs]
  split
  .have:=yx7 n (q++e.args) l;omega
  .have:=yx7 n q (l++ [e]);simp at this;omega
theorem yr2 (st:GStmt):(zs9 st).length<=4096:=by
 unfold zs9
 split
 .have:=yx7 4096 [st.where_] [];simpa using this
 .simp
theorem zJ5 (name:List UInt8):zc6 name= -1∨zc6 name=0∨zc6 name=1∨zc6 name=2:=by
 have h:=zr2 (fun T:GTable=>T.name==name) tabsS 0
 have hl:tabsS.length=3:=rfl
 rw[hl]at h
 unfold zc6
 omega
theorem yB6 (t:Int) (st:GStmt):(za7 t st).length<=2:=by
 unfold za7
 split
 .exact yH0 _ _
 .split
  .simp
  .split<;>simp
def VOk (st:GStmt):Prop:= ∀e∈zs9 st,∀name s v,zf7 e name=some (s,v)->v.ok
def tab00:GTable:=⟨[],[],0,0,0,⟨[],[],[],0,0,0⟩⟩
def zV0:List GCol->List GExpr->Int
 |c::cs,e::es=>if zv6 tab00 e c.kind≠0 then zv6 tab00 e c.kind else zV0 cs es
 |_,_=>0
def zX1 (T:GTable) (r:List GExpr):Int:=if r.length≠T.cols.length then 9 else zV0 T.cols r
def yv1 (T:GTable):List (List GExpr)->Int
 | []=>0
 |r::l=>if zX1 T r≠0 then zX1 T r else yv1 T l
theorem xW2 {ρ:Nat->Nat} {g1 g2 g3 g4:Tag}:argS ρ (.agg tab00.row) (.agg [.str [],.sl g1 [],.int .i64 0,.int .i64 0,.int .i64 0,.sl g2 [],.sl g3 [],.sl g4 [],.int .i64 0,.int .i64 0,.int .i64 0]):=
 zv2 ⟨zU rfl,yX,zU rfl,zU rfl,zU rfl,yX,yX,yX,zU rfl,zU rfl,zU rfl,tV⟩
theorem zQ1 {ρ:Nat->Nat} (e:GExpr):argS ρ (.agg e.row) (.agg [.int .i64 e.kind,.str e.s,.int .i64 e.v.kind,.int .i64 e.v.n,.str e.v.s,.sl .ro (e.args.map GExpr.row)]):=by rw[GExpr.row_eq];exact zC rfl
theorem st_T (T:GTable) (st:GStmt) (n:Nat):([.box T.row,.box st.row]:St).all (ltOb n)=true:=by simp[ltOb,ltC,ltK,GTable.row,GStmt.row]
theorem xl2 (T:GTable) (_hT:T.cols.length<=1000) (st:GStmt) (hs:SOk st):Pure prog 142 [.agg T.row,.agg st.row] (.int .i64 (yv1 T st.rows)):=by
 obtain⟨R,hR⟩:=eX st.rows
 obtain⟨ai,ag⟩:=hs.rows
 rw[hR]at ai ag
 rw[hR]
 generalize hM:yv1 T R=M
 refine iV 0 func142 ntmps142 results142 fun c hc hb=> ?_
 refine zA ?_
 simp[go_sem,hR]
 refine zH (S:=Nat) [2,3,11,12,13] (fun i=> [.ptr 0 0,.ptr 1 0,.sl .ro (R.map fun r=> [V.sl .ro (r.map GExpr.row)]),.int .i64 R.length,.int .i64 (i:Int)]) (fun _=> [.box T.row,.box st.row]) (fun i=>R.length - i)
  (fun i=>i<=R.length/\yv1 T (R.drop i)=M) hc hb 0 ⟨A3 _,hM⟩ ?_ ?_
 .exact at_n 2 (by simp[go_sem,hR]) rfl (st_T T st 2) (A3 _) (zF sg rfl)
 rintro i ⟨hi,hinv⟩
 by_cases q:i<R.length
 rotate_left
 .rw[A9 om]at hinv
  refine zA ?_
  simp[go_sem,q]
  exact iret hinv
 have ei:=zS q om
 obtain⟨r,hr⟩:=eX (R[i])
 obtain⟨ak,aj⟩:=ag r (hr▸Ab q)
 rw[A5 q,hr,yv1]at hinv
 by_cases q2:r.length=T.cols.length
 rotate_left
 .have ad:((r.length:Int) !=T.cols.length)=true:=by simp;omega
  have ae:zX1 T r=9:=by unfold zX1;rw[if_pos q2]
  rw[ae,if_pos dc]at hinv
  refine zA ?_
  simp[go_sem,q,hr,ad]
  exact iret hinv
 have ad:((r.length:Int) !=T.cols.length)=false:=by simp;omega
 have ae:zX1 T r=zV0 T.cols r:=by unfold zX1;rw[if_neg (fun h=>h q2)]
 rw[ae]at hinv
 obtain⟨C,hC⟩:=eX (zV0 T.cols r)
 rw[hC]at hinv
 refine zA ?_
 simp[go_sem,q,hr,ad]
 refine zH (S:=Nat) [2,3,11,12,13,23,24,25] (fun k=> [.ptr 0 0,.ptr 1 0,.sl .ro (R.map fun r=> [V.sl .ro (r.map GExpr.row)]),.int .i64 R.length,.int .i64 (i:Int),.sl .ro (r.map GExpr.row),.int .i64 r.length,.int .i64 (k:Int)]) (fun _=> [.box T.row,.box st.row]) (fun k=>r.length - k)
  (fun k=>k<=r.length/\zV0 (T.cols.drop k) (r.drop k)=C) hc hb 0 ⟨A3 _,hC⟩ ?_ ?_
 .exact at_n 2 (by simp[go_sem,hR]) rfl (st_T T st 2) (A3 _) (zF sg rfl)
 rintro k ⟨hk,aa⟩
 by_cases qk:k<r.length
 rotate_left
 .rw[A9 om,A9 om]at aa
  have aa:C=0:=aa.symm
  rw[if_neg (fun h=>h aa)]at hinv
  refine zA ?_
  simp[go_sem,qk,ei]
  exact zG (i+1) ⟨om,⟨om,hinv⟩,aN 2 (st_T T st 2)⟩
 have ek:=zS qk om
 have qc:k<T.cols.length:=om
 obtain⟨e,he⟩:=eX (r[k])
 obtain⟨c1,ah⟩:=eX (T.cols[k])
 have hE:=aj e (he▸Ab qk)
 rw[A5 qk,A5 qc,he,ah,zV0]at aa
 have ab:=yc8 tab00 dc e hE c1.kind
 generalize zv6 tab00 e c1.kind=kc at ab aa
 refine zA ?_
 simp[go_sem,qk,he]
 refine zc2 [(8,0)] 3 sM kR kR ?_
 simp[go_sem,qc,ah]
 refine zi5 ab cB (fun _=>⟨xW2,zQ1 e,zC rfl,tV⟩) rfl ?_
 simp[go_sem]
 by_cases qe:kc=0
 .have af:(kc !=0)=false:=sU qe
  rw[if_neg (fun h=>h qe)]at aa
  simp[go_sem,af,ek]
  exact zG (k+1) ⟨om,⟨om,aa⟩,aN 2 (st_T T st 2)⟩
 .have af:(kc !=0)=true:=sU qe
  rw[if_pos qe]at aa
  rw[if_pos (by rw[<-aa];exact qe)]at hinv
  simp[go_sem,af]
  exact iret (aa.trans hinv)
def zt2 (T:GTable):List GAssign->List GAssign->Int
 |_,[]=>0
 |p,x::l=>
  if colF T x.name<0 then 14
  else if colF T x.name=T.key∨(colF T x.name=0/\T.place=0)then 18
  else if(p.any fun y=>y.name==x.name)=true then 9
  else if zv6 T x.e (colK T (colF T x.name))≠0 then zv6 T x.e (colK T (colF T x.name))
  else zt2 T (p++ [x]) l
theorem st_x (x:GAssign):ltOb 0 (.box x.row)=true:=by simp[ltOb,ltC,ltK,GAssign.row]
theorem yX2 (x y:GAssign):VCalls prog 219 [.agg y.row,.ptr 0 0] [.box x.row] (fun r σ=>r= .bool (y.name==x.name)/\σ= [.box x.row]):=by
 refine iW 1 func219 ntmps219 results219 fun c hc hb=>zK ?_
 simp[go_sem]
 exact xM 1 rfl rfl (by simp[ltOb,ltC,ltK]) (A4 _) (zC rfl) ⟨rfl,rfl⟩
theorem xY2 (x:GAssign) (l:List GAssign) (hl:l.length<=12):VCalls prog 278 [.sl .ro (l.map GAssign.row),.fn 219 [.ptr 0 0]] [.box x.row] (fun r σ=>r= .int .i64 (zb9 (fun y=>y.name==x.name) l 0)/\σ= [.box x.row]):=by
 generalize hM:zb9 (fun y:GAssign=>y.name==x.name) l 0=M
 have ret: ∀(r:Int) (σ:St),r=M->wret (some (.int .i64 r)) 1 (fun r s=>r= .int .i64 M/\s= [.box x.row]) (.box x.row::σ):=fun r σ h=>by subst h;exact xM 1 rfl rfl (by simp[ltOb,ltC,ltK,GAssign.row]) (A4 _) (zC rfl) ⟨rfl,rfl⟩
 refine iV 1 func278 ntmps278 results278 fun c hc hb=> ?_
 refine zA ?_
 simp[go_sem]
 refine zH (S:=Nat) [0,1,6,7,8] (fun i=> [.sl .ro (l.map GAssign.row),.fn 219 [.ptr 0 0],.sl .ro (l.map GAssign.row),.int .i64 l.length,.int .i64 (i:Int)]) (fun _=> [.box x.row]) (fun i=>l.length - i)
  (fun i=>i<=l.length/\zb9 (fun y=>y.name==x.name) (l.drop i) i=M) hc hb 0 ⟨A3 _,hM⟩ ?_ ?_
 .exact aN 1 (by simp[ltOb,ltC,ltK,GAssign.row])
 rintro i ⟨hi,hinv⟩
 by_cases q:i<l.length
 rotate_left
 .rw[A9 om]at hinv
  refine zA ?_
  simp[go_sem,q]
  exact ret _ _ hinv
 have ei:=zS q om
 obtain⟨y,hy⟩:=eX (l[i])
 rw[A5 q,hy,zb9]at hinv
 have aa:=yX2 x y
 generalize (y.name==x.name)=b at aa hinv
 refine zA ?_
 simp[go_sem,q,hy]
 refine zm2 0 aa cB rfl (st_x x) ⟨zC rfl,.inl rfl,tV⟩ (fun r σ h=>⟨_,h.2,st_x x⟩) ?_
 rintro r o2 ⟨rfl,h2⟩
 obtain rfl:o2= .box x.row:=sU h2
 refine(A7 b).elim (fun p=> ?_) (fun p=> ?_)
 .rw[if_pos p]at hinv
  simp[go_sem,p]
  exact ret _ _ hinv
 .rw[if_neg (by rw[p];decide)]at hinv
  simp[go_sem,p,ei]
  exact zG (i+1) ⟨om,⟨om,hinv⟩,aN 1 (by simp[ltOb,ltC,ltK])⟩
theorem xX7 (x:GAssign) (l:List GAssign) (hl:l.length<=12):VCalls prog 218 [.sl .ro (l.map GAssign.row),.fn 219 [.ptr 0 0]] [.box x.row] (fun r σ=>r= .bool (l.any fun y=>y.name==x.name)/\σ= [.box x.row]):=by
 have h:=xY2 x l hl
 have hg:=zB2 (fun y:GAssign=>y.name==x.name) l 0
 rw[<-hg]
 generalize zb9 (fun y:GAssign=>y.name==x.name) l 0=n at h⊢
 refine iW 1 func218 ntmps218 results218 fun c hc hb=>zK ?_
 simp[go_sem]
 refine zm2 0 h cB rfl (st_x x) ⟨zC rfl,.inl (by simp[renS,renA,renC,renK,ren]),tV⟩ (fun r σ h=>⟨_,h.2,st_x x⟩) ?_
 rintro r o2 ⟨rfl,h2⟩
 obtain rfl:o2= .box x.row:=sU h2
 simp[go_sem]
 exact xM 1 rfl rfl (by simp[ltOb,ltC,ltK]) (A4 _) (zC rfl) ⟨rfl,rfl⟩
theorem xQ0 (T:GTable) (hT:T.cols.length<=1000) (st:GStmt) (hs:SOk st):Pure prog 143 [.agg T.row,.agg st.row] (.int .i64 (zt2 T [] st.sets)):=by
 obtain⟨L,hL⟩:=eX st.sets
 obtain⟨al,ak⟩:=hs.sets
 rw[hL]at al ak
 rw[hL]
 generalize hM:zt2 T [] L=M
 refine iV 0 func143 ntmps143 results143 fun c hc hb=> ?_
 refine zA ?_
 simp[go_sem,hL]
 refine zH (S:=Nat) [2,3,10,11,12] (fun i=> [.ptr 0 0,.ptr 1 0,.sl .ro (L.map GAssign.row),.int .i64 L.length,.int .i64 (i:Int)]) (fun _=> [.box T.row,.box st.row]) (fun i=>L.length - i)
  (fun i=>i<=L.length/\zt2 T (L.take i) (L.drop i)=M) hc hb 0 ⟨A3 _,hM⟩ ?_ ?_
 .exact at_n 2 (by simp[go_sem,hL]) rfl (st_T T st 2) (A3 _) (zF sg rfl)
 rintro i ⟨hi,hinv⟩
 by_cases q:i<L.length
 rotate_left
 .rw[A9 om,zt2]at hinv
  refine zA ?_
  simp[go_sem,q]
  exact iret hinv
 have ei:=zS q om
 obtain⟨x,hx⟩:=eX (L[i])
 obtain⟨aq,hE⟩:=ak x (hx▸Ab q)
 have aa:=yq5 T x.name (by unfold maxLen;omega)
 rw[show zf5 (fun c:GCol=>c.name==x.name) T.cols 0=colF T x.name from rfl]at aa
 have ag:=xX7 x (L.take i) (by simp;omega)
 have an:L.take (i+1)=L.take i++ [x]:=by rw[Cx,A0 q,hx];rfl
 rw[A5 q,hx,zt2,<-an]at hinv
 generalize ((L.take i).any fun y=>y.name==x.name)=b at ag hinv
 by_cases qc:colF T x.name<0
 .have ae:decide (colF T x.name<0)=true:=decide_eq_true qc
  rw[if_pos qc]at hinv
  refine zA ?_
  simp[go_sem,q,hx]
  refine zM aa cB (zN sg rfl) rfl ?_
  simp[go_sem,ae]
  exact iret hinv
 have ae:decide (colF T x.name<0)=false:=decide_eq_false qc
 rw[if_neg qc]at hinv
 obtain⟨j,hj,ai⟩:=zQ4 T x.name qc
 obtain⟨C,hC⟩:=eX (T.cols[j])
 have ao:colK T (colF T x.name)=C.kind:=by
  unfold colK
  rw[hj,As,A0 ai,hC];rfl
 rw[ao]at hinv
 have ab:=yc8 T (by unfold maxLen;omega) x.e hE C.kind
 generalize zv6 T x.e C.kind=kc at ab hinv
 rw[hj]at aa hinv ae
 by_cases qk:(j:Int)=T.key∨((j:Int)=0/\T.place=0)
 .rw[if_pos qk]at hinv
  refine zA ?_
  simp[go_sem,q,hx]
  refine zM aa cB (zN sg rfl) rfl ?_
  simp[go_sem,ae]
  by_cases k1:(j:Int)=T.key
  .have af:((j:Int)==T.key)=true:=sU k1
   simp[go_sem,af]
   exact iret hinv
  .have af:((j:Int)==T.key)=false:=sU k1
   obtain⟨k2,k3⟩:=qk.resolve_left k1
   have ah:((j:Int)==0)=true:=sU k2
   have aj:(T.place==0)=true:=sU k3
   simp[go_sem,af,ah,aj]
   exact iret hinv
 rw[if_neg qk]at hinv
 have af:((j:Int)==T.key)=false:=by simpa using fun h=>qk (.inl h)
 have key:((j:Int)==0)=false∨(((j:Int)==0)=true/\(T.place==0)=false):=by
  by_cases k2:(j:Int)=0
  .exact .inr ⟨by simpa using k2,by simpa using fun h=>qk (.inr ⟨k2,h⟩)⟩
  .exact .inl (sU k2)
 refine key.elim (fun ah=> ?_) (fun⟨ah,aj⟩=> ?_)
 .refine zA ?_
  simp[go_sem,q,hx]
  refine zM aa cB (zN sg rfl) rfl ?_
  simp[go_sem,ae,af,ah,hL]
  refine zI ⟨hi,yd6 fun _=>rfl⟩ ?_
  simp[go_sem,<-List.map_take]
  refine zm2 2 ag cB rfl (st_x x) ⟨zL,.inl (by simp[renS,renA,renC,renK,ren]),tV⟩ (fun r σ h=>⟨_,h.2,st_x x⟩) ?_
  rintro r o2 ⟨rfl,h2⟩
  obtain rfl:o2= .box x.row:=sU h2
  refine(A7 b).elim (fun p=> ?_) (fun p=> ?_)
  .rw[if_pos p]at hinv
   simp[go_sem,p]
   exact iret hinv
  rw[if_neg (by rw[p];decide)]at hinv
  simp[go_sem,p]
  refine zc2 [(9,0)] 3 sM kR kR ?_
  simp[go_sem,ai,hC]
  refine zi5 ab cB (fun _=>⟨zC rfl,zQ1 x.e,zC rfl,tV⟩) rfl ?_
  simp[go_sem]
  by_cases qe:kc=0
  .have ad:(kc !=0)=false:=sU qe
   rw[if_neg (fun h=>h qe)]at hinv
   simp[go_sem,ad,ei]
   exact zG (i+1) ⟨om,⟨om,hinv⟩,at_n 2 (by simp[go_sem,hL]) rfl (st_T T st 2) (A3 _) (zF sg rfl)⟩
  .have ad:(kc !=0)=true:=sU qe
   rw[if_pos qe]at hinv
   simp[go_sem,ad]
   exact iret hinv
 .refine zA ?_
  simp[go_sem,q,hx]
  refine zM aa cB (zN sg rfl) rfl ?_
  simp[go_sem,ae,af,ah,aj,hL]
  refine zI ⟨hi,yd6 fun _=>rfl⟩ ?_
  simp[go_sem,<-List.map_take]
  refine zm2 2 ag cB rfl (st_x x) ⟨zL,.inl (by simp[renS,renA,renC,renK,ren]),tV⟩ (fun r σ h=>⟨_,h.2,st_x x⟩) ?_
  rintro r o2 ⟨rfl,h2⟩
  obtain rfl:o2= .box x.row:=sU h2
  refine(A7 b).elim (fun p=> ?_) (fun p=> ?_)
  .rw[if_pos p]at hinv
   simp[go_sem,p]
   exact iret hinv
  rw[if_neg (by rw[p];decide)]at hinv
  simp[go_sem,p]
  refine zc2 [(9,0)] 3 sM kR kR ?_
  simp[go_sem,ai,hC]
  refine zi5 ab cB (fun _=>⟨zC rfl,zQ1 x.e,zC rfl,tV⟩) rfl ?_
  simp[go_sem]
  by_cases qe:kc=0
  .have ad:(kc !=0)=false:=sU qe
   rw[if_neg (fun h=>h qe)]at hinv
   simp[go_sem,ad,ei]
   exact zG (i+1) ⟨om,⟨om,hinv⟩,at_n 2 (by simp[go_sem,hL]) rfl (st_T T st 2) (A3 _) (zF sg rfl)⟩
  .have ad:(kc !=0)=true:=sU qe
   rw[if_pos qe]at hinv
   simp[go_sem,ad]
   exact iret hinv
def zp1 (st:GStmt):Int:=
 match tabsS[(zc6 st.table).toNat]? with
 |none=>14
 |some T=>if zc6 st.table<0 then 14 else if st.kind=1 then yc2 T st else if st.kind=2 then yv1 T st.rows else if st.kind=3 then(if zt2 T [] st.sets≠0 then zt2 T [] st.sets else zJ9 T st)else zJ9 T st
theorem xu0 (st:GStmt) (hs:SOk st):Pure prog 85 [schR tabsS,.agg st.row] (.int .i64 (zp1 st)):=by
 have ad:=xr8 tabsS st.table dc
 rw[show zf5 (fun t:GTable=>t.name==st.table) tabsS 0=zc6 st.table from rfl]at ad
 generalize hM:zp1 st=M
 unfold zp1 at hM
 have al:=zJ5 st.table
 generalize zc6 st.table=t at ad al hM
 refine iW 0 func85 ntmps85 results85 fun c hc hb=>zK ?_
 simp[go_sem,schR]
 refine zM ad cB (zN (by simp[go_sem,schR]) rfl) rfl ?_
 simp[go_sem]
 by_cases ah:t= -1
 .have hM:14=M:=by rw[<-hM,ah];rfl
  subst ah
  simp[go_sem]
  exact iret hM
 have ai: ¬t<0:=om
 have aj:decide (t<0)=false:=decide_eq_false ai
 obtain⟨j,rfl⟩: ∃j:Nat,t=j:=⟨t.toNat,om⟩
 have ae:j<tabsS.length:=by show j<3;omega
 obtain⟨T,hT⟩:=eX (tabsS[j])
 have ak:T.cols.length<=1000:=by
  rw[<-hT]
  match j,ae with
  |0,_=>exact(by decide:tabT.cols.length<=1000)
  |1,_=>exact(by decide:tabG.cols.length<=1000)
  |2,_=>exact(by decide:tabH.cols.length<=1000)
 simp only[As,A0 ae,hT]at hM
 rw[if_neg ai]at hM
 have h1:=xu3 T (by unfold maxLen;omega) st hs
 have h2:=xl2 T ak st hs
 have h3:=xQ0 T ak st hs
 have h4:=yQ9 T (by unfold maxLen;omega) st hs
 simp[go_sem,aj,ae,hT]
 by_cases k1:st.kind=1
 .have aa:(st.kind==1)=true:=sU k1
  rw[if_pos k1]at hM
  simp[go_sem,aa]
  refine zM h1 cB (zN sg rfl) rfl ?_
  simp[go_sem]
  exact iret hM
 have aa:(st.kind==1)=false:=sU k1
 rw[if_neg k1]at hM
 by_cases k2:st.kind=2
 .have ab:(st.kind==2)=true:=sU k2
  rw[if_pos k2]at hM
  simp[go_sem,aa,ab]
  refine zM h2 cB (zN sg rfl) rfl ?_
  simp[go_sem]
  exact iret hM
 have ab:(st.kind==2)=false:=sU k2
 rw[if_neg k2]at hM
 by_cases k3:st.kind=3
 .have af:(st.kind==3)=true:=sU k3
  rw[if_pos k3]at hM
  generalize zt2 T [] st.sets=sc at h3 hM
  simp[go_sem,aa,ab,af]
  refine zM h3 cB (zN sg rfl) rfl ?_
  by_cases qe:sc=0
  .have ag:(sc !=0)=false:=sU qe
   rw[if_neg (fun h=>h qe)]at hM
   simp[go_sem,ag]
   refine zM h4 cB (zN sg rfl) rfl ?_
   simp[go_sem]
   exact iret hM
  .have ag:(sc !=0)=true:=sU qe
   rw[if_pos qe]at hM
   simp[go_sem,ag]
   exact iret hM
 have af:(st.kind==3)=false:=sU k3
 rw[if_neg k3]at hM
 simp[go_sem,aa,ab,af]
 refine zM h4 cB (zN sg rfl) rfl ?_
 simp[go_sem]
 exact iret hM
def zO3 (mode:Int):List GStmt->Nat->Int×Int
 | [],_=>(0,0)
 |x::l,i=>if mode≠0/\x.kind≠1 then((i:Int),1)else if zp1 x≠0 then((i:Int),zp1 x)else zO3 mode l (i+1)
def zp0 (l:GLot):Int×Int:=if mayL l=true then zO3 l.mode l.stmts 0 else(0,9)
theorem yM8 (l:GLot) (hl:LOk l):Pure prog 40 [schR tabsS,.agg l.row] (wK (zp0 l)):=by
 have ad:=xq8 l hl
 obtain⟨L,hL⟩:=eX l.stmts
 obtain⟨ag,af⟩:=hl.stmts
 rw[hL]at ag af
 obtain⟨m,hm⟩:=eX l.mode
 generalize hM:zp0 l=M
 unfold zp0 at hM
 rw[hL,hm]at hM
 generalize mayL l=b at ad hM
 refine iV 0 func40 ntmps40 results40 fun c hc hb=> ?_
 refine zA ?_
 simp[go_sem,schR]
 refine zM ad cB (zN sg rfl) rfl ?_
 refine(A7 b).elim (fun p=> ?_) (fun p=> ?_)
 rotate_left
 .rw[if_neg (by rw[p];decide)]at hM
  simp[go_sem,p]
  exact zv7 hM
 rw[if_pos p]at hM
 simp[go_sem,p,hL]
 refine zH (S:=Nat) [2,3,13,14,15] (fun i=> [.ptr 0 0,.ptr 1 0,.sl .ro (L.map GStmt.row),.int .i64 L.length,.int .i64 (i:Int)]) (fun _=> [.box [.sl .ro wF,.sl .ro (tabsS.map GTable.row)],.box l.row]) (fun i=>L.length - i)
  (fun i=>i<=L.length/\zO3 m (L.drop i) i=M) hc hb 0 ⟨A3 _,hM⟩ ?_ ?_
 .exact at_n 2 (by simp[go_sem,hL]) rfl (by simp[ltOb,ltC,ltK,GLot.row]) (A3 _) (zF sg rfl)
 rintro i ⟨hi,hinv⟩
 by_cases q:i<L.length
 rotate_left
 .rw[A9 om,zO3]at hinv
  refine zA ?_
  simp[go_sem,q]
  exact zv7 hinv
 have ei:=zS q om
 obtain⟨st,ae⟩:=eX (L[i])
 have aa:=xu0 st (af st (ae▸Ab q))
 rw[A5 q,ae,zO3]at hinv
 generalize zp1 st=ce at aa hinv
 refine zA ?_
 simp[go_sem,q,ae,hm]
 by_cases q1:m≠0/\st.kind≠1
 .rw[if_pos q1]at hinv
  have ah:(m !=0)=true:=sU q1.1
  have ai:(st.kind !=1)=true:=sU q1.2
  simp[go_sem,ah,ai]
  exact zv7 hinv
 rw[if_neg q1]at hinv
 have key:(m !=0)=false∨((m !=0)=true/\(st.kind !=1)=false):=by
  by_cases h:m=0
  .exact .inl (sU h)
  .refine .inr ⟨by simpa using h, ?_⟩
   simp only[bne_eq_false_iff_eq]
   exact C5 fun g=>q1 ⟨h,g⟩
 refine key.elim (fun a1=> ?_) (fun⟨a1,a2⟩=> ?_)
 .simp[go_sem,a1]
  refine zM aa cB (zN (by simp[go_sem,schR]) rfl) rfl ?_
  by_cases qe:ce=0
  .have ab:(ce !=0)=false:=sU qe
   rw[if_neg (fun h=>h qe)]at hinv
   simp[go_sem,ab,ei]
   exact zG (i+1) ⟨om,⟨om,hinv⟩,at_n 2 (by simp[go_sem,hL,hm]) rfl (by simp[ltOb,ltC,ltK]) (A3 _) (zF sg rfl)⟩
  .have ab:(ce !=0)=true:=sU qe
   rw[if_pos qe]at hinv
   simp[go_sem,ab]
   exact zv7 hinv
 .simp[go_sem,a1,a2]
  refine zM aa cB (zN (by simp[go_sem,schR]) rfl) rfl ?_
  by_cases qe:ce=0
  .have ab:(ce !=0)=false:=sU qe
   rw[if_neg (fun h=>h qe)]at hinv
   simp[go_sem,ab,ei]
   exact zG (i+1) ⟨om,⟨om,hinv⟩,at_n 2 (by simp[go_sem,hL,hm]) rfl (by simp[ltOb,ltC,ltK]) (A3 _) (zF sg rfl)⟩
  .have ab:(ce !=0)=true:=sU qe
   rw[if_pos qe]at hinv
   simp[go_sem,ab]
   exact zv7 hinv
def digL:Nat->Nat->List UInt8->List UInt8
 |0,_,acc=>acc
 |f+1,u,acc=>if u=0 then acc else digL f (u/10) ((48+UInt8.ofNat (u%10))::acc)
def digF (n:Nat):List UInt8:=if n=0 then [48]else digL 20 n []
theorem xv1 (r:Nat) (h:r<10):((48:UInt8)::List.take r [49,50,51,52,53,54,55,56,57]).drop r= [(48+UInt8.ofNat r)]:=by
 have:r=0∨r=1∨r=2∨r=3∨r=4∨r=5∨r=6∨r=7∨r=8∨r=9:=om
 rcases this with rfl|rfl|rfl|rfl|rfl|rfl|rfl|rfl|rfl|rfl<;>rfl
theorem yH4: ∀(f u:Nat) (acc:List UInt8),(digL f u acc).length<=f+acc.length
 |0,u,acc=>by rw[digL];omega
 |f+1,u,acc=>by
  rw[digL]
  split
  .omega
  .have:=yH4 f (u/10) ((48+UInt8.ofNat (u%10))::acc);simp only[Aa]at this;omega
theorem zQ5 (n:Nat):(digF n).length<=20:=by
 unfold digF
 split
 .decide
 .have:=yH4 20 n [];simpa using this
theorem ye3 (n:Nat) (hn:n<=9223372036854775807):Pure prog 27 [.int .i64 n] (.str (digF n)):=by
 generalize hM:digF n=M
 unfold digF at hM
 have ret: ∀(r:List UInt8) (σ:St),r=M->wret (some (.str r)) 0 (fun r s=>r= .str M/\s= []) σ:=fun r σ h=>by subst h;exact wR
 refine iV 0 func27 ntmps27 results27 fun c hc hb=> ?_
 refine zA ?_
 simp[go_sem]
 by_cases q0:n=0
 .rw[if_pos q0]at hM
  simp[go_sem,q0]
  exact ret _ _ hM
 rw[if_neg q0]at hM
 have ae:((n:Int)==0)=false:=sU q0
 have ab:decide ((n:Int)<0)=false:=decide_eq_false om
 have eu:IntKind.u64.wrap (n:Int)=(n:Int):=Vx.u64_id om om
 simp[go_sem,ae,ab,eu]
 refine zH (S:=Nat×List UInt8) [0,3,4] (fun u=> [.int .i64 n,.int .u64 (u.1:Int),.str u.2]) (fun _=> []) (fun u=>u.1)
  (fun u=>u.1<=n/\ ∃f,u.1<10^f/\u.2.length+f<=20/\digL f u.1 u.2=M) hc hb (n,[]) ⟨A4 _,20,by simp only;omega,sM,hM⟩ ?_ ?_
 .exact aO
 rintro⟨u,s⟩ ⟨hu,f,hf,hs,hinv⟩
 simp only at hu hf hs hinv
 by_cases q:u=0
 .subst q
  have hinv:s=M:=by
   rw[<-hinv]
   cases f with
   |zero=>rfl
   |succ f=>rw[digL,if_pos rfl]
  refine zA ?_
  simp[go_sem,ab]
  exact ret _ _ hinv
 obtain⟨f,rfl⟩: ∃g,f=g+1:=by
  cases f with
  |zero=>simp at hf;omega
  |succ f=>exact⟨f,rfl⟩
 rw[digL,if_neg q]at hinv
 have hq:0<u:=om
 have er:(u:Int).tmod 10=((u%10:Nat):Int):=by rw[Int.tmod_eq_emod_of_nonneg om];omega
 have aa:IntKind.u64.wrap (((u%10:Nat):Int)+1)=((u%10+1:Nat):Int):=by rw[Vx.u64_id om om];omega
 have af:(u:Int).tdiv 10=((u/10:Nat):Int):=by rw[Int.tdiv_eq_ediv_of_nonneg om];omega
 have ed:IntKind.u64.wrap ((u:Int).tdiv 10)=((u/10:Nat):Int):=by
  rw[Int.tdiv_eq_ediv_of_nonneg om,Vx.u64_id om om];omega
 have ad:=xv1 (u%10) (Cn _ dc)
 obtain⟨r,hr⟩:=eX (u%10)
 have ah:r<10:=om
 rw[hr]at er aa ad hinv
 have ag:IntKind.u64.wrap ((u:Int)/10)=(u:Int)/10:=Vx.u64_id om om
 have ai:((r:Int)).toNat=r:=As r
 have aj:((r+1:Nat):Int).toNat=r+1:=As _
 refine zA ?_
 simp only[Int.natCast_add,Bu]at aa
 simp[go_sem,hq,er,aa]
 refine zI om ?_
 simp[go_sem,ad]
 refine zI om ?_
 simp[go_sem,af,ag]
 refine zG (u/10,(48+UInt8.ofNat r)::s) ⟨by simp only;omega,⟨by simp only;omega,f,by simp only;rw[Nat.pow_succ]at hf;omega,by simp;omega,hinv⟩, ?_⟩
 exact aO
def oneS (a:Nat) (l:List UInt8):TR:=
 if wG (l.headD 0)=true then(⟨1,0,(l.takeWhile wrdF).map yF,0⟩,a+(l.takeWhile wrdF).length,0)
 else if xJ (l.headD 0)=true then numT a l
 else if(l.headD 0).toNat=39 then xH (a+1) [] (l.drop 1)
 else if 2<=l.length/\(l.take 2= [60,61]∨l.take 2= [62,61]∨l.take 2= [60,62])then(⟨4,0,l.take 2,0⟩,a+2,0)
 else if signsL.contains (l.headD 0)=true then(⟨4,0,[l.headD 0],0⟩,a+1,0)
 else(yY,0,13)
theorem xf4 (s:List UInt8) (a:Nat) (ha:a<s.length):oneF s a=oneS a (s.drop a):=by
 have h1:(s.drop a).headD 0=s.getD a 0:=xL3 s a
 have h2:(s.drop a).drop 1=s.drop (a+1):=by rw[Dg]
 have h3:(2<=(s.drop a).length)↔a+1<s.length:=by rw[Cq];omega
 unfold oneF oneS
 rw[h1,h2]
 simp only[h3]
def lexS:Nat->Nat->List UInt8->List GToken->List GToken×Int
 |0,_,_,_=>([],0)
 |_+1,a,[],acc=>(acc++ [⟨0,a,[],0⟩],0)
 |n+1,a,c::l,acc=>
  if zA2 c=true then lexS n (a+1) l acc
  else if(oneS a (c::l)).2.2=0 then lexS n (oneS a (c::l)).2.1 ((c::l).drop ((oneS a (c::l)).2.1 - a)) (acc++ [{(oneS a (c::l)).1 with place:=a}])
  else([],(oneS a (c::l)).2.2)
theorem yU3 (s:List UInt8): ∀(n a:Nat) (acc:List GToken),a<=s.length->lexL s n a acc=lexS n a (s.drop a) acc
 |0,a,acc,_=>rfl
 |n+1,a,acc,ha=>by
  rw[lexL]
  by_cases q:a<s.length
  rotate_left
  .have:a=s.length:=om
   subst this
   rw[if_neg q,Cf,lexS]
  have hd:=A5 q
  have hg:s.getD a 0=s[a]:=by rw[A8,A0 q];rfl
  have ho:=xf4 s a q
  rw[if_pos q,hg,hd,lexS,<-hd,<-ho]
  by_cases q2:zA2 s[a]=true
  .rw[if_pos q2,if_pos q2]
   exact yU3 s n (a+1) acc om
  rw[if_neg q2,if_neg q2]
  by_cases q3:(oneF s a).2.2=0
  .have hk:=yd1 q q3
   rw[if_pos q3,if_pos q3,yU3 s n _ _ om,Dg]
   congr 2
   omega
  .rw[if_neg q3,if_neg q3]
theorem yB1 {a:Nat} {c:UInt8} {l:List UInt8} (h:(oneS a (c::l)).2.2=0):a<(oneS a (c::l)).2.1/\(oneS a (c::l)).2.1<=a+(l.length+1):=by
 have hd:(List.replicate a (0:UInt8)++c::l).drop a=c::l:=by
  rw[E5,A9 sM,List.length_replicate,Nat.sub_self]
  rfl
 have hl:a<(List.replicate a (0:UInt8)++c::l).length:=sM
 have he:=xf4 _ a hl
 rw[hd]at he
 rw[<-he]at h⊢
 have:=yd1 hl h
 simp only[Ak,List.length_replicate,Aa]at this
 omega
theorem zW4: ∀(n m a:Nat) (l:List UInt8) (acc:List GToken),l.length<n->l.length<m->lexS n a l acc=lexS m a l acc
 |0,_,_,_,_,h,_=>by omega
 |_+1,0,_,_,_,_,h=>by omega
 |n+1,m+1,a,[],acc,_,_=>by rw[lexS,lexS]
 |n+1,m+1,a,c::l,acc,h1,h2=>by
  simp only[Aa]at h1 h2
  rw[lexS,lexS]
  split
  .exact zW4 n m _ _ _ om om
  split
  .rename_i h3
   have:=yB1 h3
   exact zW4 n m _ _ _ (by simp only[Cq,Aa];omega) (by simp only[Cq,Aa];omega)
  .rfl
section
variable {r:List UInt8}
theorem yY5 {p:UInt8->Bool} (h:p 59=false): ∀l:List UInt8,(l++59::r).takeWhile p=l.takeWhile p
 | []=>by simp[h]
 |c::l=>by
  rw[Ax,List.takeWhile_cons,List.takeWhile_cons,yY5 h l]
theorem xv4 {p:UInt8->Bool} (h:p 59=false): ∀l:List UInt8,(l++59::r).dropWhile p=l.dropWhile p++59::r
 | []=>by simp[h]
 |c::l=>by
  rw[Ax,List.dropWhile_cons,List.dropWhile_cons,xv4 h l]
  split<;>rfl
theorem yL8: ∀(l:List UInt8) (v:Int),numL v (l++59::r)=numL v l
 | [],v=>by
  simp[numL,show xJ 59=false by decide]
 |c::l,v=>by
  rw[Ax,numL,numL]
  split
  .split
   .rfl
   .exact yL8 l _
  .rfl
theorem zX7: ∀(n:Nat) (l:List UInt8) (i:Nat) (w:List UInt8),l.length<=n->(xH i w l).2.2=0->xH i w (l++59::r)=xH i w l
 |_,[],i,w,_,h=>by simp[xH]at h
 |_,[c],i,w,_,h=>by
  rw[xH]at h
  by_cases q:c.toNat=39
  .rw[List.singleton_append,xH,xH,if_pos q,if_pos q,if_neg dc]
  .rw[if_neg q]at h;cases h
 |0,_::_::_,_,_,hn,_=>by simp at hn
 |n+1,c::d::l,i,w,hn,h=>by
  simp only[Aa]at hn
  rw[xH]at h
  rw[Ax,Ax,xH,xH]
  by_cases q:c.toNat=39
  .rw[if_pos q]at h⊢
   rw[if_pos q]
   by_cases q2:d.toNat=39
   .rw[if_pos q2]at h⊢
    rw[if_pos q2]
    exact zX7 n l _ _ om h
   .rw[if_neg q2,if_neg q2]
  .rw[if_neg q]at h⊢
   rw[if_neg q]
   exact zX7 n (d::l) _ _ (by simp only[Aa];omega) h
theorem xB1 (a:Nat) (l:List UInt8):numT a (l++59::r)=numT a l:=by
 unfold numT
 rw[yL8,xv4 dc,yY5 dc]
 have e:wG ((l.dropWhile xJ++59::r).headD 0)=wG ((l.dropWhile xJ).headD 0):=by
  cases l.dropWhile xJ with
  |nil=>rfl
  |cons c l=>rfl
 rw[e]
theorem xC5 {a:Nat} {c:UInt8} {l:List UInt8} (h:(oneS a (c::l)).2.2=0):oneS a (c::l++59::r)=oneS a (c::l):=by
 unfold oneS at h⊢
 rw[yY5 dc,xB1]
 simp only[Ax,List.headD_cons,D0,B1]at h⊢
 by_cases q1:wG c=true
 .rw[if_pos q1,if_pos q1]
 rw[if_neg q1]at h⊢
 rw[if_neg q1]
 by_cases q2:xJ c=true
 .rw[if_pos q2,if_pos q2]
 rw[if_neg q2]at h⊢
 rw[if_neg q2]
 by_cases q3:c.toNat=39
 .rw[if_pos q3]at h⊢
  rw[if_pos q3]
  exact zX7 _ l _ _ (A4 _) h
 rw[if_neg q3]at h⊢
 rw[if_neg q3]
 cases l with
 |nil=>simp
 |cons d l=>simp
end
variable {n:Nat}{a:Int}
def upT (t:GToken):GToken:={t with place:=0}
def lexR:Nat->List UInt8->Option (List GToken)
 |0,_=>none
 |_+1,[]=>some []
 |n+1,c::l=>
  if zA2 c=true then lexR n l
  else if(oneS 0 (c::l)).2.2=0 then(lexR n ((c::l).drop (oneS 0 (c::l)).2.1)).map fun T=>upT (oneS 0 (c::l)).1::T
  else none
theorem yn1 (a:Nat): ∀(n:Nat) (l:List UInt8) (i:Nat) (w:List UInt8),l.length<=n->(xH (a+i) w l).1=(xH i w l).1/\(xH (a+i) w l).2.2=(xH i w l).2.2/\((xH i w l).2.2=0->(xH (a+i) w l).2.1=a+(xH i w l).2.1)
 |_,[],_,_,_=>by simp[xH]
 |_,[c],i,w,_=>by
  rw[xH,xH]
  split
  .unfold ya6;split
   .exact⟨rfl,rfl,fun h=>by cases h⟩
   .exact⟨rfl,rfl,fun _=>rfl⟩
  .exact⟨rfl,rfl,fun h=>by cases h⟩
 |0,_::_::_,_,_,hn=>by simp at hn
 |n+1,c::d::l,i,w,hn=>by
  simp only[Aa]at hn
  rw[xH,xH]
  split
  .split
   .exact yn1 a n l (i+2) _ om
   .unfold ya6;split
    .exact⟨rfl,rfl,fun h=>by cases h⟩
    .exact⟨rfl,rfl,fun _=>rfl⟩
  .exact yn1 a n (d::l) (i+1) _ (by simp only[Aa];omega)
theorem xO8 (a:Nat) (l:List UInt8):(oneS a l).1=(oneS 0 l).1/\(oneS a l).2.2=(oneS 0 l).2.2/\((oneS 0 l).2.2=0->(oneS a l).2.1=a+(oneS 0 l).2.1):=by
 unfold oneS
 split
 .exact⟨rfl,rfl,fun _=>sM⟩
 split
 .unfold numT
  split
  .exact⟨rfl,rfl,fun h=>by cases h⟩
  .split
   .exact⟨rfl,rfl,fun h=>by cases h⟩
   .exact⟨rfl,rfl,fun _=>sM⟩
 split
 .exact yn1 a _ _ 1 _ (A4 _)
 split
 .exact⟨rfl,rfl,fun _=>sM⟩
 split
 .exact⟨rfl,rfl,fun _=>sM⟩
 .exact⟨rfl,rfl,fun h=>by cases h⟩
theorem zL5: ∀{n:Nat} {t:List UInt8} {T:List GToken},lexR n t=some T-> ∀{m:Nat},n<=m->lexR m t=some T
 |0,_,_,h,_,_=>by cases h
 |n+1,t,T,h,m,hm=>by
  obtain⟨k,rfl⟩: ∃k,m=k+1:=⟨m - 1,om⟩
  cases t with
  |nil=>exact h
  |cons c l=>
   rw[lexR]at h⊢
   split at h
   .rename_i q;rw[if_pos q];exact zL5 h om
   rename_i q
   rw[if_neg q]
   split at h
   .rename_i q2
    rw[if_pos q2]
    obtain⟨U,hU,e⟩:=Ao.1 h
    rw[zL5 hU (m:=k) om]
    exact congrArg some e
   .cases h
theorem yj7 {r:List UInt8} {Q:List GToken}: ∀{n:Nat} {t:List UInt8} {T:List GToken},lexR n t=some T-> ∀{m:Nat},lexR m (59::r)=some Q->lexR (n+m) (t++59::r)=some (T++Q)
 |0,_,_,h,_,_=>by cases h
 |n+1,[],T,h,m,hm=>by
  cases h
  exact zL5 hm om
 |n+1,c::l,T,h,m,hm=>by
  rw[show n+1+m=n+m+1 by omega,Ax,lexR]
  rw[lexR]at h
  split at h
  .rename_i q;rw[if_pos q];exact yj7 h hm
  rename_i q
  rw[if_neg q]
  split at h
  .rename_i q2
   have e:oneS 0 (c::(l++59::r))=oneS 0 (c::l):=xC5 q2
   have ho:=yB1 q2
   rw[e,if_pos q2]
   obtain⟨U,hU,rfl⟩:=Ao.1 h
   have hd:(c::(l++59::r)).drop (oneS 0 (c::l)).2.1=(c::l).drop (oneS 0 (c::l)).2.1++59::r:=by
    rw[<-Ax,List.drop_append_of_le_length (by simp only[Aa];omega)]
   rw[hd,yj7 hU hm]
   rfl
  .cases h
theorem yU4: ∀{n:Nat} {t:List UInt8} {T:List GToken},lexR n t=some T-> ∀(a:Nat) (acc:List GToken),∃T',T'.map upT=T/\lexS n a t acc=(acc++T'++ [⟨0,((a+t.length:Nat):Int),[],0⟩],0)
 |0,_,_,h,_,_=>by cases h
 |n+1,[],T,h,a,acc=>by
  cases h
  exact⟨[],rfl,by rw[lexS,B9];rfl⟩
 |n+1,c::l,T,h,a,acc=>by
  rw[lexR]at h
  rw[lexS]
  split at h
  .rename_i q
   obtain⟨T',h1,h2⟩:=yU4 h (a+1) acc
   rw[if_pos q,h2]
   exact⟨T',h1,by rw[Aa,show a+1+l.length=a+(l.length+1) by omega]⟩
  rename_i q
  rw[if_neg q]
  split at h
  .rename_i q2
   obtain⟨s1,s2,s3⟩:=xO8 a (c::l)
   have ho:=yB1 q2
   obtain⟨U,hU,rfl⟩:=Ao.1 h
   rw[if_pos (by rw[s2];exact q2),s3 q2,show a+(oneS 0 (c::l)).2.1 - a=(oneS 0 (c::l)).2.1 by omega]
   obtain⟨T',h1,h2⟩:=yU4 hU (a+(oneS 0 (c::l)).2.1) (acc++ [{(oneS a (c::l)).1 with place:=a}])
   refine⟨{(oneS a (c::l)).1 with place:=a}::T',by rw[Ai,h1,s1];rfl,h2.trans ?_⟩
   rw[Cq,show a+(oneS 0 (c::l)).2.1+((c::l).length - (oneS 0 (c::l)).2.1)=a+(c::l).length by simp only[Aa];omega]
   simp
  .cases h
theorem xY9 {t:List UInt8} {T:List GToken} (h:lexR n t=some T) (hl:t.length<=2000): ∃L,lexF t=(L,0)/\L.map upT=T++ [⟨0,0,[],0⟩]:=by
 obtain⟨T',h1,h2⟩:=yU4 (zL5 h (m:=n+t.length+1) om) 0 []
 refine⟨T'++ [⟨0,((0+t.length:Nat):Int),[],0⟩], ?_,by rw[Co,h1];rfl⟩
 unfold lexF
 rw[if_neg om,yU3 t _ 0 [] (A3 _),B1,zW4 _ (n+t.length+1) _ _ _ om om,h2]
 simp
structure Rd (q:List GToken×GStmt):Prop where
 rd:zd5 (q.1++ [⟨0,0,[],0⟩]) rs0=(q.2,⟨q.1.length,0,0,0⟩)
 hd:(q.1.getD 0 yY).kind=1
 as_:(q.1.getD 0 yY).s≠wAS
def semi:GToken:=⟨4,0,[59],0⟩
def zG6:List (List GToken×GStmt)->List GToken
 | []=> []
 | [q]=>q.1
 |q::x::l=>q.1++semi::zG6 (x::l)
theorem yc5 {L Q:List GToken} {k i:Nat} (h:(L.drop k).map upT=Q) (hi:i<Q.length):(L.getD (k+i) yY).kind=(Q.getD i yY).kind/\(L.getD (k+i) yY).s=(Q.getD i yY).s/\(L.getD (k+i) yY).n=(Q.getD i yY).n:=by
 subst h
 rw[An]at hi
 rw[Cq]at hi
 rw[A8,A8,B6,Bt,A0 om]
 exact⟨rfl,rfl,rfl⟩
theorem ym6 {L:List GToken}: ∀(qs:List (List GToken×GStmt)) {n:Nat} {k:Nat} {acc:List GStmt} {p:Int},qs≠ []->(∀q∈qs,Rd q)->(L.drop k).map upT=zG6 qs++ [⟨0,0,[],0⟩]->acc.length+qs.length<=8->qs.length<=n->
  (zh4 L n acc ⟨k,0,0,p⟩).1=acc++qs.map (·.2)/\(zh4 L n acc ⟨k,0,0,p⟩).2.err=0/\(tokF L (zh4 L n acc ⟨k,0,0,p⟩).2).kind=0
 | [],_,_,_,_,h,_,_,_,_=>absurd rfl h
 |q::l,n,k,acc,p,_,hq,hL,ha,hn=>by
  simp only[Aa]at ha hn
  obtain⟨n,rfl⟩: ∃m,n=m+1:=⟨n - 1,om⟩
  obtain⟨T,st⟩:=q
  have hR:=hq _ (Al ..)
  have af:=hR.rd
  simp only at af
  have hQ: ∃Q,zG6 ((T,st)::l)++ [⟨0,0,[],0⟩]=T++Q/\(l= []->Q= [⟨0,0,[],0⟩])/\(l≠ []->Q=semi::(zG6 l++ [⟨0,0,[],0⟩])):=by
   cases l with
   |nil=>exact⟨[⟨0,0,[],0⟩],rfl,fun _=>rfl,fun h=>absurd rfl h⟩
   |cons x l=>exact⟨semi::(zG6 (x::l)++ [⟨0,0,[],0⟩]),by rw[zG6];simp,fun h=>(by cases h),fun _=>rfl⟩
  obtain⟨Q,e,ag,ah⟩:=hQ
  rw[e]at hL
  have al:0<Q.length/\yF2 (Q.getD 0 yY):=by
   by_cases h:l= []
   .rw[ag h];exact⟨dc,.inl rfl⟩
   .rw[ah h];exact⟨sM,.inr ⟨rfl,rfl⟩⟩
  have hlen:=congrArg List.length hL
  rw[An,Cq,Ak]at hlen
  have ai: ∀i,(T++Q).getD (T.length+i) yY=Q.getD i yY:=fun i=>by
   rw[A8,B8 om,Nat.add_sub_cancel_left,<-A8]
  have an:Ag L (T++ [⟨0,0,[],0⟩]) k T.length:=by
   refine⟨fun i hi=> ?_, ?_, ?_,om,sM⟩
   .have h:=yc5 hL (i:=i) (by rw[Ak];omega)
    have e2:(T++Q).getD i yY=(T++ [(⟨0,0,[],0⟩:GToken)]).getD i yY:=by
     rw[A8,A8,Az hi,Az hi]
    rw[e2]at h
    exact h
   .have h:=yc5 hL (i:=T.length) (by rw[Ak];omega)
    rw[show(T++Q).getD T.length yY=Q.getD 0 yY from ai 0]at h
    unfold yF2
    rw[h.1,h.2.1]
    exact al.2
   .rw[A8,B8 (A4 _),Nat.sub_self];exact .inl rfl
  have ab:=xF5 an (s:=⟨k,0,0,p⟩) (u:=rs0) ⟨rfl,A3 _,rfl,rfl⟩
  rw[af]at ab
  have h1:=ab.eq
  have h2:=ab.rl
  simp only at h1 h2
  clear ab
  obtain⟨z,hs⟩: ∃x,(zd5 L ⟨k,0,0,p⟩).2=x:=⟨_,rfl⟩
  obtain⟨sa,so,se,sp⟩:=z
  rw[hs]at h2
  have r1:sa=k+T.length:=h2.at_
  have r2:so=0:=h2.opn
  have r3:se=0:=h2.err
  subst r1 r2 r3
  have hm:zc0 L acc.length 8 (beg4 L ⟨k,0,0,p⟩) ⟨k,0,0,p⟩=⟨k,0,0,p⟩:=by
   unfold zc0
   rw[if_neg om]
  have aa:=yc5 hL (i:=T.length) (by rw[Ak];omega)
  rw[show(T++Q).getD T.length yY=Q.getD 0 yY from ai 0]at aa
  rw[zh4,if_pos rfl,hm,if_pos rfl,hs,h1]
  by_cases hl:l= []
  .subst hl
   rw[ag rfl]at aa
   have hk:(tokF L ⟨k+T.length,0,0,sp⟩).kind=0:=aa.1
   have hi:isT L [59] ⟨k+T.length,0,0,sp⟩=false:=by unfold isT;rw[hk];rfl
   rw[hi,if_neg dc]
   exact⟨rfl,rfl,hk⟩
  .have aj:=ah hl
   rw[aj]at aa
   have hk:(tokF L ⟨k+T.length,0,0,sp⟩).kind=4:=aa.1
   have ao:(tokF L ⟨k+T.length,0,0,sp⟩).s= [59]:=aa.2.1
   have hi:isT L [59] ⟨k+T.length,0,0,sp⟩=true:=by unfold isT;rw[hk,ao];rfl
   have ak:(L.drop (k+T.length+1)).map upT=zG6 l++ [⟨0,0,[],0⟩]:=by
    have:=congrArg (List.drop (T.length+1)) hL
    rw[<-List.map_drop,Dg,E5,A9 (show T.length<=T.length+1 by omega),aj,show T.length+1 - T.length=1 by omega]at this
    rw[show k+T.length+1=k+(T.length+1) by omega]
    exact this
   obtain⟨x,l2,hx⟩: ∃x l2,l=x::l2:=Bq hl
   have ad:=hq x (by rw[hx];simp)
   have aq:x.1≠ []:=fun h=>by have:=ad.hd;rw[h]at this;exact absurd this dc
   have hj:(zG6 l++ [(⟨0,0,[],0⟩:GToken)]).getD 0 yY=x.1.getD 0 yY:=by
    obtain⟨y,ys,hy⟩:=Bq aq
    rw[hx]
    cases l2 with
    |nil=>rw[zG6,hy];rfl
    |cons z l3=>rw[zG6,hy];rfl
   have ae:=yc5 ak (i:=0) (by rw[Ak];simp)
   rw[hj]at ae
   have ar:(tokF L (zJ ⟨k+T.length,0,0,sp⟩)).kind=1:=ae.1.trans ad.hd
   have au:(tokF L (zJ ⟨k+T.length,0,0,sp⟩)).s≠wAS:=fun h=>ad.as_ (ae.2.1.symm.trans h)
   have av: ¬(isT L wAS (zJ ⟨k+T.length,0,0,sp⟩)=true∨(tokF L (zJ ⟨k+T.length,0,0,sp⟩)).kind=0):=by
    rintro(h|h)
    .unfold isT at h
     simp only[A1,beq_iff_eq]at h
     exact au h.2.2
    .rw[ar]at h;cases h
   rw[hi,if_pos rfl,if_neg av]
   obtain⟨a1,a2,a3⟩:=ym6 l (n:=n) (k:=k+T.length+1) (acc:=acc++ [st]) (p:=sp) hl (fun y hy=>hq y (Am _ hy)) ak (by simp;omega) om
   exact⟨by rw[show zJ ⟨k+T.length,0,0,sp⟩=⟨k+T.length+1,0,0,sp⟩ from rfl,a1];simp,a2,a3⟩
theorem yW1 {t:List UInt8} {qs:List (List GToken×GStmt)} (h:lexR n t=some (zG6 qs)) (hl:t.length<=2000) (hq: ∀q∈qs,Rd q) (h0:qs≠ []) (h8:qs.length<=8):yC t=(⟨0,0,qs.map (·.2)⟩,0,0):=by
 obtain⟨L,h1,h2⟩:=xY9 h hl
 obtain⟨a1,a2,a3⟩:=ym6 (L:=L) qs (n:=9) (k:=0) (acc:= []) (p:=0) h0 hq (by rw[B1];exact h2) (sU h8) om
 rw[Bi]at a1
 unfold yC
 rw[h1,if_pos rfl]
 unfold yM9
 simp only
 obtain⟨⟨X,s⟩,hX⟩: ∃x,zh4 L 9 [] rs0=x:=⟨_,rfl⟩
 rw[show zh4 L 9 [] ⟨0,0,0,0⟩=(X,s) from hX]at a1 a2 a3
 rw[hX]
 simp only at a1 a2 a3⊢
 have hi:isT L wAS s=false:=by unfold isT;rw[a3];simp
 have ha:asF L s=((0,0),s):=by unfold asF;rw[hi,if_neg dc]
 have he:endF L s=s:=by unfold endF;rw[if_neg (fun h=>h.2 a3)]
 rw[ha]
 simp only
 rw[he,if_pos a2,a1]
abbrev okI (n:Int):Prop:= -9223372036854775808<=n/\n<=9223372036854775807
def rngF (n:Int):Int×Int:=if okI n then(n,0)else(0,5)
theorem zN2 {n:Int} (h:okI n):IntKind.i64.wrap n=n:=Vx.i64_id h.1 h.2
theorem zU7 (a b:Int) (ha:okI a) (aa:okI b):Pure prog 291 [.int .i64 a,.int .i64 b] (wK (rngF (a+b))):=by
 generalize hM:rngF (a+b)=M
 unfold rngF at hM
 have q:(0<b/\decide (0<b)=true/\decide (b<0)=false)∨(b<0/\decide (0<b)=false/\decide (b<0)=true)∨(b=0/\decide (0<b)=false/\decide (b<0)=false):=by
  simp only[decide_eq_true_eq,decide_eq_false_iff_not];omega
 unfold okI at ha aa hM
 refine iW 0 func291 ntmps291 results291 fun c hc hb=>zK ?_
 rcases q with ⟨q,q1,q2⟩|⟨q,q1,q2⟩|⟨q,q1,q2⟩
 .have w1:IntKind.i64.wrap (9223372036854775807 - b)=9223372036854775807 - b:=zN2 ⟨om,om⟩
  by_cases r:9223372036854775807 - b<a
  .have r':decide (9223372036854775807 - b<a)=true:=decide_eq_true r
   simp[go_sem,q1,w1,r']
   exact wW (by rw[<-hM,if_neg om])
  .have r':decide (9223372036854775807 - b<a)=false:=decide_eq_false r
   have w2:IntKind.i64.wrap (a+b)=a+b:=zN2 ⟨om,om⟩
   simp[go_sem,q1,q2,w1,r',w2]
   exact wW (by rw[<-hM,if_pos om])
 .have w1:IntKind.i64.wrap (-9223372036854775808 - b)= -9223372036854775808 - b:=zN2 ⟨om,om⟩
  by_cases r:a< -9223372036854775808 - b
  .have r':decide (a< -9223372036854775808 - b)=true:=decide_eq_true r
   simp[go_sem,q1,q2,w1,r']
   exact wW (by rw[<-hM,if_neg om])
  .have r':decide (a< -9223372036854775808 - b)=false:=decide_eq_false r
   have w2:IntKind.i64.wrap (a+b)=a+b:=zN2 ⟨om,om⟩
   simp[go_sem,q1,q2,w1,r',w2]
   exact wW (by rw[<-hM,if_pos om])
 .have w2:IntKind.i64.wrap (a+b)=a+b:=zN2 ⟨om,om⟩
  simp[go_sem,q1,q2,w2]
  exact wW (by rw[<-hM,if_pos om])
theorem yk0 (x:Nat) (hx:x<18446744073709551616):zf2 .and .u64 (x:Int) 4294967295=((x%4294967296:Nat):Int):=by
 unfold zf2
 have h1:(BitVec.ofInt IntKind.u64.bits (x:Int)).toNat=x:=by
  rw[BitVec.toNat_ofInt]
  show((x:Int)%(18446744073709551616:Nat)).toNat=x
  omega
 have h2:(BitVec.ofInt IntKind.u64.bits 4294967295).toNat=4294967295:=dc
 simp only[BitVec.toNat_and,h1,h2]
 have h3:=Nat.and_two_pow_sub_one_eq_mod x 32
 have h4:(2:Nat)^32 - 1=4294967295:=dc
 have h5:(2:Nat)^32=4294967296:=dc
 rw[h4,h5]at h3
 rw[h3]
 exact Vx.u64_id om om
theorem zS9 (x:Nat):(x:Int).fdiv 4294967296=((x/4294967296:Nat):Int):=by
 rw[Dq _ dc]
 rfl
theorem wh6 (n:Nat):IntKind.u64.wrap (n:Int)=((n%18446744073709551616:Nat):Int):=by
 unfold IntKind.wrap
 simp[IntKind.bits,IntKind.signed]
theorem natU (h:n<18446744073709551616):IntKind.u64.wrap (n:Int)=(n:Int):=Vx.u64_id om om
theorem xo0 (a b c d:Nat) (ha:a<4294967296) (hb:b<4294967296) (hc:c<4294967296) (hd:d<4294967296):
  a*d<=18446744065119617025/\b*c<=18446744065119617025/\a*c<=18446744065119617025/\b*d<=18446744065119617025/\
  (a*4294967296+b)*(c*4294967296+d)=(a*c)*18446744073709551616+(a*d)*4294967296+(b*c)*4294967296+b*d:=by
 have m: ∀x y:Nat,x<4294967296->y<4294967296->x*y<=18446744065119617025:=fun x y hx hy=>by
  have:=Nat.mul_le_mul (show x<=4294967295 by omega) (show y<=4294967295 by omega)
  simpa using this
 refine⟨m _ _ ha hd,m _ _ hb hc,m _ _ ha hc,m _ _ hb hd, ?_⟩
 rw[B2,Nat.mul_add,Nat.mul_add]
 have e1:a*4294967296*(c*4294967296)=(a*c)*18446744073709551616:=by
  rw[Nat.mul_mul_mul_comm]
 have e2:a*4294967296*d=(a*d)*4294967296:=by rw[Nat.mul_right_comm]
 have e3:b*(c*4294967296)=(b*c)*4294967296:=by rw[Nat.mul_assoc]
 rw[e1,e2,e3]
 omega
theorem zn2 (x y:Nat):(x:Int)*(y:Int)=((x*y:Nat):Int):=sM
theorem zQ3 (x y:Nat):(x:Int)+(y:Int)=((x+y:Nat):Int):=sM
theorem xJ2 (x y:Nat) (hx:x<18446744073709551616) (hy:y<18446744073709551616):Pure prog 360 [.int .u64 x,.int .u64 y] (.tup [.int .u64 ((x*y/18446744073709551616:Nat):Int),.int .u64 ((x*y%18446744073709551616:Nat):Int)]):=by
 obtain⟨m1,m2,m3,m4,m5⟩:=xo0 (x/4294967296) (x%4294967296) (y/4294967296) (y%4294967296) om om om om
 have ex:x/4294967296*4294967296+x%4294967296=x:=Nat.div_add_mod' x 4294967296
 have ey:y/4294967296*4294967296+y%4294967296=y:=Nat.div_add_mod' y 4294967296
 rw[ex,ey]at m5
 have a1:=yk0 x hx
 have a2:=yk0 y hy
 have a3:=zS9 x
 have a4:=zS9 y
 generalize aa:x/4294967296=x1 at*
 generalize ab:x%4294967296=x0 at*
 generalize ad:y/4294967296=y1 at*
 generalize ae:y%4294967296=y0 at*
 obtain⟨p,hp⟩: ∃p,p=x1*y1:=⟨_,rfl⟩
 obtain⟨q,hq⟩: ∃q,q=x1*y0:=⟨_,rfl⟩
 obtain⟨r,hr⟩: ∃r,r=x0*y1:=⟨_,rfl⟩
 obtain⟨s,hs⟩: ∃s,s=x0*y0:=⟨_,rfl⟩
 rw[<-hq]at m1 m5
 rw[<-hr]at m2 m5
 rw[<-hp]at m3 m5
 rw[<-hs]at m4 m5
 refine iW 0 func360 ntmps360 results360 fun c hc hb=>zK ?_
 simp[go_sem,a1,a2,a3,a4]
 refine xP (zC rfl) ⟨?_,rfl⟩
 rw[zn2 x1 y1,<-hp,zn2 x1 y0,<-hq,zn2 x0 y1,<-hr,zn2 x0 y0,<-hs,natU (n:=s) om,natU (n:=p) om,natU (n:=q) om,natU (n:=r) om,zS9 s,
  zQ3,natU (n:=q+s/4294967296) om,zS9,yk0 _ om,zQ3,zQ3,natU (n:=p+(q+s/4294967296)/4294967296) om,natU (n:=(q+s/4294967296)%4294967296+r) om,zS9,zQ3,natU om,zn2,wh6]
 have e:p+(q+s/4294967296)/4294967296+((q+s/4294967296)%4294967296+r)/4294967296=x*y/18446744073709551616:=by
  rw[m5]
  omega
 rw[e]
 rfl
theorem xI3 (h:a<0) (h2: -9223372036854775808<=a):IntKind.u64.wrap (-IntKind.u64.wrap a)=(a.natAbs:Int):=by
 have e:IntKind.u64.wrap a=a+18446744073709551616:=by
  unfold IntKind.wrap
  simp[IntKind.bits,IntKind.signed]
  omega
 rw[e]
 unfold IntKind.wrap
 simp[IntKind.bits,IntKind.signed]
 omega
theorem xE7 (a:Int) (ha:okI a):Pure prog 361 [.int .i64 a] (.int .u64 (a.natAbs:Int)):=by
 unfold okI at ha
 refine iW 0 func361 ntmps361 results361 fun c hc hb=>zK ?_
 simp[go_sem]
 by_cases q:a<0
 .have q1:decide (a<0)=true:=decide_eq_true q
  simp[go_sem,q1]
  refine xP (zC rfl) ⟨?_,rfl⟩
  rw[xI3 q ha.1]
 .have q1:decide (a<0)=false:=decide_eq_false q
  simp[go_sem,q1]
  refine xP (zC rfl) ⟨?_,rfl⟩
  rw[Vx.u64_id om om]
  congr 1
  omega
def yk3 (a b:Int):Nat:=if decide (a<0)=decide (b<0)then 9223372036854775807 else 9223372036854775808
theorem xZ2 (a b:Int):okI (a*b)↔a.natAbs*b.natAbs<=yk3 a b:=by
 obtain⟨n,hn⟩:=Int.eq_nat_or_neg a
 obtain⟨m,hm⟩:=Int.eq_nat_or_neg b
 have e:a.natAbs=n/\b.natAbs=m:=⟨om,om⟩
 rw[e.1,e.2]
 have z1:n=0->n*m=0:=fun h=>by subst h;exact D2 m
 have z2:m=0->n*m=0:=fun h=>by subst h;exact Nat.mul_zero n
 unfold yk3 okI
 rcases hn with rfl|rfl<;>rcases hm with rfl|rfl
 .rw[zn2,decide_eq_false om,decide_eq_false om,if_pos rfl]
  generalize n*m=p at*
  omega
 .rw[Int.mul_neg,zn2]
  generalize n*m=p at*
  rw[decide_eq_false om]
  by_cases q: -(m:Int)<0
  .rw[decide_eq_true q,if_neg sM];omega
  .rw[decide_eq_false q,if_pos rfl]
   have:=z2 om
   omega
 .rw[Int.neg_mul,zn2]
  generalize n*m=p at*
  rw[decide_eq_false (p:=(m:Int)<0) om]
  by_cases q: -(n:Int)<0
  .rw[decide_eq_true q,if_neg sM];omega
  .rw[decide_eq_false q,if_pos rfl]
   have:=z1 om
   omega
 .rw[Int.neg_mul_neg,zn2]
  generalize n*m=p at*
  by_cases q: -(n:Int)<0<;>by_cases q2: -(m:Int)<0
  .rw[decide_eq_true q,decide_eq_true q2,if_pos rfl];omega
  .have:=z2 om
   rw[decide_eq_true q,decide_eq_false q2,if_neg sM];omega
  .have:=z1 om
   rw[decide_eq_false q,decide_eq_true q2,if_neg sM];omega
  .have:=z1 om
   rw[decide_eq_false q,decide_eq_false q2,if_pos rfl];omega
theorem xZ1 (a b:Int):((!(decide (a<0)==decide (b<0)))=true->yk3 a b=9223372036854775808)/\((!(decide (a<0)==decide (b<0)))=false->yk3 a b=9223372036854775807):=by
 unfold yk3
 generalize decide (a<0)=x
 generalize decide (b<0)=y
 cases x<;>cases y<;>simp
theorem wd4 (a b:Int) (ha:okI a) (ab:okI b):Pure prog 349 [.int .i64 a,.int .i64 b] (wK (rngF (a*b))):=by
 have af:=xE7 a ha
 have ag:=xE7 b ab
 have ad:a.natAbs<18446744073709551616/\b.natAbs<18446744073709551616:=by unfold okI at ha ab;omega
 have hm:=xJ2 a.natAbs b.natAbs ad.1 ad.2
 have hok:=xZ2 a b
 have ah:yk3 a b<=9223372036854775808:=by unfold yk3;split<;>omega
 have ae:=xZ1 a b
 generalize hP:a.natAbs*b.natAbs=p at*
 have ai:p/18446744073709551616*18446744073709551616+p%18446744073709551616=p:=Nat.div_add_mod' _ _
 have aj:p%18446744073709551616<18446744073709551616:=Cn _ dc
 generalize p/18446744073709551616=hi at*
 generalize p%18446744073709551616=lo at*
 generalize hM:rngF (a*b)=M
 unfold rngF at hM
 refine iW 0 func349 ntmps349 results349 fun c hc hb=>zK ?_
 simp[go_sem]
 refine pC af ?_
 simp[go_sem]
 refine pC ag ?_
 simp[go_sem]
 refine pC hm ?_
 simp[go_sem]
 have u1:IntKind.u64.wrap 9223372036854775808=9223372036854775808:=dc
 refine zR (fun v2=> ?_) (fun v2=> ?_)
 .rw[ae.1 v2]at hok
  by_cases q:p<=9223372036854775808
  .have f1:decide (0<hi)=false:=decide_eq_false om
   have f3:decide ((9223372036854775808:Int)<(lo:Int))=false:=decide_eq_false om
   have w:=zN2 (hok.2 q)
   simp[go_sem,f1,f3,w,u1]
   exact wW (by rw[<-hM,if_pos (hok.2 q)])
  .have aa: ¬okI (a*b):=fun h=>q (hok.1 h)
   have f4:decide (0<hi)=true∨(decide (0<hi)=false/\decide ((9223372036854775808:Int)<(lo:Int))=true):=by
    simp only[decide_eq_true_eq,decide_eq_false_iff_not];omega
   rcases f4 with f4|⟨f4,f5⟩
   .simp[go_sem,f4]
    exact wW (by rw[<-hM,if_neg aa])
   .simp[go_sem,f4,f5,u1]
    exact wW (by rw[<-hM,if_neg aa])
 .rw[ae.2 v2]at hok
  by_cases q:p<=9223372036854775807
  .have f1:decide (0<hi)=false:=decide_eq_false om
   have f3:decide ((9223372036854775807:Int)<(lo:Int))=false:=decide_eq_false om
   have w:=zN2 (hok.2 q)
   simp[go_sem,f1,f3,w]
   exact wW (by rw[<-hM,if_pos (hok.2 q)])
  .have aa: ¬okI (a*b):=fun h=>q (hok.1 h)
   have f4:decide (0<hi)=true∨(decide (0<hi)=false/\decide ((9223372036854775807:Int)<(lo:Int))=true):=by
    simp only[decide_eq_true_eq,decide_eq_false_iff_not];omega
   rcases f4 with f4|⟨f4,f5⟩
   .simp[go_sem,f4]
    exact wW (by rw[<-hM,if_neg aa])
   .simp[go_sem,f4,f5]
    exact wW (by rw[<-hM,if_neg aa])
theorem yA4 (a b:Int) (ha:okI a) (ab:okI b):Pure prog 317 [.int .i64 a,.int .i64 b] (wK (rngF (a - b))):=by
 by_cases q:b= -9223372036854775808
 .generalize hM:rngF (a - b)=M
  unfold rngF at hM
  unfold okI at ha
  have q1:(b != -9223372036854775808)=false:=sU q
  refine iW 0 func317 ntmps317 results317 fun c hc hb=>zK ?_
  simp[go_sem,q1]
  by_cases r:0<=a
  .have r1:decide (0<=a)=true:=decide_eq_true r
   simp[go_sem,r1]
   exact wW (by rw[<-hM,if_neg om])
  .have r1:decide (0<=a)=false:=decide_eq_false r
   have w:IntKind.i64.wrap (a - b)=a - b:=zN2 ⟨om,om⟩
   simp[go_sem,r1,w]
   exact wW (by rw[<-hM,if_pos (by unfold okI;omega)])
 .have hn:okI (-b):=by unfold okI at*;omega
  have w:IntKind.i64.wrap (-b)= -b:=zN2 hn
  have q1:(b != -9223372036854775808)=true:=sU q
  have aa:=zU7 a (-b) ha hn
  have e:a+ -b=a - b:=om
  rw[e]at aa
  generalize rngF (a - b)=M at*
  refine iW 0 func317 ntmps317 results317 fun c hc hb=>zK ?_
  simp[go_sem,q1,w]
  refine pC aa ?_
  simp[go_sem,wK]
  exact wR
def zu3 (s:List UInt8) (a b:Int):Int×Int:=
 if s= [43]then rngF (a+b)else if s= [45]then rngF (a - b)else if s= [42]then rngF (a*b)
 else if b=0 then(0,17)else if s= [37]then(a.tmod b,0)else rngF (a.tdiv b)
theorem xR1 {b:Int} (ha:okI a) (hb:okI b):okI (a.tmod b):=by
 unfold okI at*
 by_cases q:b=0
 .subst q;rw[Int.tmod_zero];exact ha
 .have h2:(a.tmod b).natAbs=a.natAbs%b.natAbs:=Int.natAbs_tmod a b
  have h3:a.natAbs%b.natAbs<=a.natAbs:=Nat.mod_le _ _
  have h4:(a.tmod b).natAbs<b.natAbs:=by
   rw[h2];exact Cn _ om
  omega
theorem xR0 {b:Int} (ha:okI a) (_hb:okI b) (h:b≠ -1):okI (a.tdiv b):=by
 unfold okI at*
 have h2:(a.tdiv b).natAbs=a.natAbs/b.natAbs:=Int.natAbs_tdiv a b
 by_cases q:b.natAbs<=1
 .have:b=0∨b=1:=om
  rcases this with rfl|rfl
  .rw[Int.tdiv_zero];omega
  .rw[Int.tdiv_one];exact ha
 .have h3:a.natAbs/b.natAbs<=a.natAbs/2:=Nat.div_le_div_left om om
  omega
theorem xD7 (s:List UInt8) (a b:Int) (ha:okI a) (aa:okI b):Pure prog 319 [.str s,.int .i64 a,.int .i64 b] (wK (zu3 s a b)):=by
 have c1:=zU7 a b ha aa
 have c2:=yA4 a b ha aa
 have c3:=wd4 a b ha aa
 have c4:=yA4 0 a dc ha
 have e4:rngF (0 - a)=rngF (-a):=by congr 1;omega
 rw[e4]at c4
 have wr: ∀{x:Int×Int} {M:Int×Int} {σ:St},x=M->wret (some (.tup [.int .i64 x.1,.int .i64 x.2])) 0 (fun v s=>v=wK M/\s= []) σ:=fun h=>wW h.symm
 generalize hM:zu3 s a b=M
 unfold zu3 at hM
 refine iW 0 func319 ntmps319 results319 fun c hc hb=>zK ?_
 simp[go_sem]
 by_cases s1:s= [43]
 .simp only[s1,if_pos]at hM
  simp[go_sem,s1]
  refine pC c1 ?_
  simp[go_sem,wK]
  exact wr hM
 by_cases s2:s= [45]
 .rw[if_neg s1,if_pos s2]at hM
  simp[go_sem,s2]
  refine pC c2 ?_
  simp[go_sem,wK]
  exact wr hM
 by_cases s3:s= [42]
 .rw[if_neg s1,if_neg s2,if_pos s3]at hM
  simp[go_sem,s3]
  refine pC c3 ?_
  simp[go_sem,wK]
  exact wr hM
 rw[if_neg s1,if_neg s2,if_neg s3]at hM
 have af:(s== [43])=false:=sU s1
 have ag:(s== [45])=false:=sU s2
 have ah:(s== [42])=false:=sU s3
 simp[go_sem,af,ag,ah]
 by_cases b0:b=0
 .rw[if_pos b0]at hM
  have ab:(b==0)=true:=sU b0
  simp[go_sem,ab]
  exact wW hM.symm
 rw[if_neg b0]at hM
 have ab:(b==0)=false:=sU b0
 simp[go_sem,ab]
 by_cases s4:s= [37]
 .rw[if_pos s4]at hM
  have ad:(s== [37])=true:=sU s4
  simp[go_sem,ad]
  refine zI b0 ?_
  simp[go_sem]
  exact wW hM.symm
 rw[if_neg s4]at hM
 have ad:(s== [37])=false:=sU s4
 simp[go_sem,ad]
 by_cases b1:b= -1
 .rw[b1,Int.tdiv_neg,Int.tdiv_one]at hM
  have ae:(b== -1)=true:=sU b1
  simp[go_sem,ae]
  refine pC c4 ?_
  simp[go_sem,wK]
  exact wr hM
 have ae:(b== -1)=false:=sU b1
 have ok:=xR0 ha aa b1
 unfold rngF at hM
 rw[if_pos ok]at hM
 simp[go_sem,ae,zN2 ok]
 refine zI b0 ?_
 simp[go_sem]
 exact wW hM.symm
end Go.Proofs.YtefbicjgbaaieaaGreat
