/-
  What typed expressions come to (plain facts); used by the theorem at the end of the claim.
  Conditions: as each theorem states them.
-/
import Derived.Test.YtefbicjgbaaieaaGreatMAI
import Derived.Test.YtefbicjgbaaieaaGreatMAL
import Derived.Test.YtefbicjgbaaieaaGreatMAK
import Derived.Test.YtefbicjgbaaieaaGreatMAE
import Derived.Lib.Overlaps
import Derived.Lib.AppendZerosOnto
import Derived.Laws.Externs
import Derived.Laws.IdiomCopy
import Derived.Deep.RegionLaw
import Derived.Lib.Bytealg
set_option maxHeartbeats 8000000
namespace Go.Proofs.YtefbicjgbaaieaaGreat
open Go Go.Vx Go.Proofs.Tryz
set_option maxRecDepth 100000
theorem RW (c:UInt8):Pure prog 268 [.int .u8 c.toNat] (.bool (xN c)):=by
 unfold xN
 generalize c.toNat=n
 generalize hM:decide (48<=n/\n<=57)=M
 have ret: ∀(r:Bool) (U:St),r=M->cj (some (.bool r)) 0 (λr s=>r= .bool M/\s= []) U:=λr U h=>by subst h;exact yL (zC rfl) sm
 refine iW 0 func268 ntmps268 results268 λc hc hb=>zL ?_
 simp[go_sem]
 refine xD (λq=> ?_) (λq=> ?_)
 .simp[go_sem,q]
  refine ret _ _ ?_
  rw[<-hM]
  grind
 .simp[go_sem,q]
  refine ret _ _ ?_
  grind
theorem yU0: ∀n:Fin 256,wM (UInt8.ofNat n.1)=(((decide (97<=jv .or .u8 (n.1:Nat) 32)&&decide (jv .or .u8 (n.1:Nat) 32<=122))&&decide (65<=((n.1:Nat):Int)))||(((n.1:Nat):Int)==95)):=dc
theorem yI5 (c:UInt8):Pure prog 338 [.int .u8 c.toNat] (.bool (wM c)):=by
 have h:=yU0 ⟨c.toNat,c.toNat_lt⟩
 simp only[UInt8.ofNat_toNat]at h
 rw[h]
 clear h
 obtain⟨n,hn⟩:=eX c.toNat
 simp only[hn]
 generalize hg:jv .or .u8 (n:Nat) 32=g
 refine iW 0 func338 ntmps338 results338 λc hc hb=>zL ?_
 simp[go_sem,hg]
 refine(A4 (decide (97<=g))).elim (λq1=> ?_) (λq1=> ?_)
 .refine(A4 (decide (g<=122))).elim (λq2=> ?_) (λq2=> ?_)
  .refine(A4 (decide (65<=(n:Int)))).elim (λq3=> ?_) (λq3=> ?_)
   .rw[q1,q2,q3]
    simp[go_sem,hg,q2,q3]
    exact yL (zC rfl) sm
   .rw[q1,q2,q3]
    simp[go_sem,hg,q2,q3]
    exact yL (zC rfl) sm
  .rw[q1,q2]
   simp[go_sem,hg,q2]
   exact yL (zC rfl) sm
 .rw[q1]
  simp[go_sem]
  exact yL (zC rfl) sm
def oS (c:UInt8):Bool:=wM c||xN c
theorem yU4 (c:UInt8):Pure prog 270 [.int .u8 c.toNat] (.bool (oS c)):=by
 have h1:=yI5 c
 have h2:=RW c
 unfold oS
 generalize wM c=a at h1⊢
 generalize xN c=b at h2⊢
 refine iW 0 func270 ntmps270 results270 λc hc hb=>zL ?_
 simp[go_sem]
 refine pC h1 ?_
 simp[go_sem]
 refine(A4 a).elim (λq=> ?_) (λq=> ?_)
 .simp[go_sem,q]
  exact yL (zC rfl) sm
 .simp[go_sem,q]
  refine pC h2 ?_
  simp[go_sem]
  exact yL (zC rfl) (by grind)
def lT (p:UInt8->Bool):afE->Nat
 | []=>0
 |c::l=>if p c=true then lT p l+1 else 0
theorem xA5 (s:afE) (hl:s.length<=maxLen):Pure prog 269 [.str s,.fn 270 []] (.int .i64 (lT oS s:Nat)):=by
 generalize hM:lT oS s=M
 have ret: ∀(r:Nat) (U:St),r=M->cj (some (.int .i64 r)) 0 (λr s=>r= .int .i64 (M:Nat)/\s= []) U:=λr U h=>by subst h;exact yL (zC rfl) sm
 refine iV 0 func269 ntmps269 results269 λc hc hb=> ?_
 refine zA ?_
 simp[go_sem]
 refine zH (S:=Nat) [0,1,5] (λi=> [.str s,.fn 270 [],.int .i64 i]) (λ_=> []) (λi=>s.length - i) (λi=>i<=s.length/\i+lT oS (s.drop i)=M) hc hb 0 (by grind) ?_ ?_
 .exact gV rfl (zN (by rfl) rfl)
 rintro i ⟨hi,hinv⟩
 by_cases q:i<s.length
 rotate_left
 .rw[C8 om,lT,D2]at hinv
  refine zA ?_
  simp[go_sem,q]
  exact ret _ _ hinv
 have ei:=zR q (by unfold maxLen at hl;omega)
 obtain⟨x,hx⟩:=eX (s[i])
 rw[A2 q,hx,lT]at hinv
 have aa:=yU4 x
 obtain⟨b,ab⟩:=eX (oS x)
 rw[ab]at aa hinv
 refine zA ?_
 simp[go_sem,q,hx]
 refine pC aa ?_
 simp[go_sem]
 refine(A4 b).elim (λw=> ?_) (λw=> ?_)
 .rw[afb w]at hinv
  simp[go_sem,w,ei]
  exact zG (i+1) ⟨om,om,gV rfl (zN (by rfl) rfl)⟩
 .rw[afa (by grind)]at hinv
  simp[go_sem,w]
  exact ret _ _ om
theorem RX (p:UInt8->Bool): ∀s:afE,decide (lT p s<s.length)= !(s.all p)
 | []=>by rfl
 |c::l=>by
  have h:=RX p l
  unfold lT
  grind
def EO:afE->List afE
 | []=> []
 |c::l=>if c=32/\32∈l then l.takeWhile (· !=32)::EO l else EO l
theorem RY: ∀(s l:afE),(∀c∈s,c≠32)->((s++ [32]).isPrefixOf l=true↔l.takeWhile (· !=32)=s/\32∈l)
 | [],[],_=>by simp
 | [],c::l,_=>by
  by_cases h:c=32
  .simp_all
  .have h':(c !=32)=true:=by grind
   have h2: ¬(32=c):=(by grind)
   simp_all
 |a::s,[],_=>by simp
 |a::s,c::l,hs=>by
  have ih:=RY s l λx hx=>hs x (by simp[hx])
  have ha:a≠32:=(by grind)
  rw[Ap,List.isPrefixOf,A6,ih]
  grind[List.takeWhile_cons_of_neg,Cv]
theorem RZ (s:afE) (hs: ∀c∈s,c≠32): ∀T:afE,0<=Lib.index T (32::(s++ [32]))↔s∈EO T
 | []=>by grind[Lib.index,EO]
 |b::l=>by
  have ih:=RZ s hs l
  have hg:=Lib.index_ge l (32::(s++ [32]))
  have hp:=RY s l hs
  unfold Lib.index EO
  grind
def GL:afE:= [32,65,76,76,32,65,78,68,32,65,83,32,65,83,67,32,66,69,84,87,69,69,78,32,66,79,85,78,68,32,66,89,32,67,79,85,78,84,32,68,69,76,69,84,69,32,68,69,83,67,32,69,88,65,67,84,32,70,65,76,83,69,32,70,82,79,77,32,73,78,83,69,82,84,32,73,78,84,79,32,73,83,32,76,73,77,73,84,32,78,79,84,32,78,85,76,76,32,78,79,87,32,79,70,32,79,82,32,79,82,68,69,82,32,83,69,76,69,67,84,32,83,69,84,32,83,85,77,32,83,89,83,84,69,77,32,84,73,77,69,32,84,82,85,69,32,85,80,68,65,84,69,32,86,65,76,85,69,83,32,87,72,69,82,69,32]
theorem yL9:EO GL=iL:=by rfl
theorem xE6 (s:afE) (hs: ∀c∈s,c≠32):Lib.contains GL (32::(s++ [32]))=iL.contains s:=by
 have h:=RZ s hs GL
 rw[yL9]at h
 unfold Lib.contains
 grind
theorem yl8 (s sub:afE) (hs:s.length<4294967281):Pure prog 272 [.str s,.str sub] (.bool (Lib.contains s sub)):=by
 intro w L I aa hm ha
 match aa,ha with
 | [a,b],⟨h1,h2,_⟩=>
  have e1:=kI h1
  have e2:=kI h2
  subst e1 e2
  obtain⟨_,m,hc⟩:=hm.iY.num (qN.headD (0,.i64)) dc
  refine(Tryz.strings_Contains _ _ m w (by simpa) hc).mono ?_
  rintro e w' ⟨rfl,rfl⟩
  exact⟨_,.bool _,L,[],I,rfl,sm,om,hm,cq.bool _⟩
def kE:afE->Nat->afE
 | [],_=> []
 |c::l,0=>c::l
 |c::l,i+1=>yG c::kE l i
theorem R1: ∀(s:afE) (i:Nat),(kE s i).length=s.length
 | [],_=>rfl
 |_::_,0=>rfl
 |c::l,i+1=>by rw[kE,Ab,R1 l i,Ab]
theorem MV: ∀s:afE,kE s 0=s
 | []=>rfl
 |_::_=>rfl
theorem R2: ∀s:afE,kE s s.length=s.map yG
 | []=>rfl
 |c::l=>by rw[Ab,kE,R2 l,Ai]
theorem R3: ∀(s:afE) (i:Nat),(kE s i)[i]? =s[i]?
 | [],_=>rfl
 |_::_,0=>rfl
 |c::l,i+1=>by rw[kE,Cc,Cc,R3 l i]
theorem R4: ∀(s:afE) (i:Nat) (h:i<s.length),(kE s i).set i (yG s[i])=kE s (i+1)
 | [],_,h=>(by rfl)
 |c::l,0,_=>by rw[kE,kE,MV];rfl
 |c::l,i+1,h=>by
  rw[kE,Bv,List.getElem_cons_succ,R4 l i (sU h),kE]
theorem R5: ∀(s:afE) (i:Nat) (h:i<s.length),yG s[i]=s[i]->kE s i=kE s (i+1)
 | [],_,h,_=>(by rfl)
 |c::l,0,_,hg=>by grind[kE,MV]
 |c::l,i+1,h,hg=>by
  rw[kE,kE,R5 l i (sU h) (sU hg)]
abbrev ym:UInt8->List V:=λc=> [V.int .u8 c.toNat]
theorem R6 (s:afE):zP s=s.map ym:=rfl
theorem xX1 (l:afE) (n:Nat):bP n (.cc (l.map ym) 1)=true:=by
 simp only[bP,Ad]
 intro r hr
 obtain⟨x,_,rfl⟩:=Ac.1 hr
 intro y hy
 cases hy<;>trivial
theorem Jy (l:afE):([Ob.cc (l.map ym) 1]:St).all (bP 1)=true:=by
 grind[xX1]
theorem xt3 (l:afE):wF (l.map ym)=true:=by
 simp only[wF,Ad]
 intro r hr
 obtain⟨x,_,rfl⟩:=Ac.1 hr
 intro y hy
 cases hy<;>trivial
theorem xj9 (l:afE) (n:Nat) (h:l.length=n):ij (l.map ym) 0 n=l.map ym:=by
 unfold ij
 rw[Az,Aj (by grind),Be]
 rfl
theorem yU3 (s:afE) (hl:s.length<=maxLen):Pure prog 271 [.str s] (.str (s.map yG)):=by
 obtain⟨n,hn⟩:=eX s.length
 unfold maxLen at hl
 refine iV 0 func271 ntmps271 results271 λc hc hb=> ?_
 refine AR 7 dc ?_
 refine zA ?_
 simp[go_sem,R6,hn]
 refine zH (S:=Nat) [3,8,9,10] (λi=> [.cJ 0 1 n 0 n,.cJ 0 1 n 0 n,.int .i64 n,.int .i64 i]) (λi=> [.cc ((kE s i).map ym) 1]) (λi=>n - i) (λi=>i<=n) hc hb 0 om ?_ ?_
 .exact ca 1 (by grind[MV]) rfl (Jy _) om (zD (by rfl) rfl)
 intro i hi
 by_cases q:i<n
 rotate_left
 .have ai:i=n:=om
  subst ai
  rw[<-hn,R2,hn]
  have ae:=xj9 (s.map yG) i (by rw[Bb,hn])
  have ab:=Fu (s.map yG)
  have ad:=wY (s.map yG)
  rw[R6]at ab ad
  generalize hS:s.map yG=S at ae ab ad⊢
  have aj:S.length=i:=by grind
  clear hS
  refine tc 0 1 (S.map ym) rfl (xt3 _) ?_
  refine zA ?_
  simp[go_sem,aj,ae]
  refine zI ad ?_
  simp[go_sem]
  rw[<-Be,ab]
  exact yL (zC rfl) sm
 have hq:i<s.length:=om
 have ei:=zR q om
 obtain⟨x,hx⟩:=eX (s[i])
 obtain⟨cur,af⟩: ∃c,kE s i=c:=⟨_,rfl⟩
 obtain⟨ag,an⟩: ∃c,kE s (i+1)=c:=⟨_,rfl⟩
 have ah:cur.length=n:=by grind[R1]
 have aq:i<cur.length:=om
 have ak:cur[i]=x:=by
  grind[R3]
 have ao:cur.set i (yG x)=ag:=by grind[R4]
 have aa:yG x=x->cur=ag:=(by grind[R5])
 rw[af]
 have ar:0<=((x.toNat:Nat):Int)/\((x.toNat:Nat):Int)<=255:=by have:=x.toNat_lt;omega
 refine zA ?_
 simp[go_sem,q,ak,ah]
 have small: ¬(97<=x.toNat/\x.toNat<=122)->yG x=x:=(by simp_all[yG,afa])
 refine xD (λq1=> ?_) (λq1=> ?_)
 .simp[go_sem,q1]
  refine zS (λq2=> ?_) (λq2=> ?_)
  .have q1:97<=x.toNat:=by grind
   have q2:x.toNat<=122:=by grind
   have hg:IntKind.u8.wrap ((x.toNat:Int) - 32)=((yG x).toNat:Int):=by
    rw[IW om om]
    simp_all[yG];omega
   simp[go_sem,hg,q,ah,ei]
   exact zG (i+1) ⟨om,om,ca 1 (by grind[afD]) rfl (Jy _) om (zD (by rfl) rfl)⟩
  .have q2: ¬x.toNat<=122:=by grind
   have hs:=aa (small λh=>q2 h.2)
   simp[go_sem,ei]
   exact zG (i+1) ⟨om,om,ca 1 (by grind) rfl (Jy _) om (zD (by rfl) rfl)⟩
 .have q1: ¬97<=x.toNat:=by grind
  have hs:=aa (small λh=>q1 h.1)
  have al:decide ((97:Int)<=x.toNat)=false:=by grind
  simp[go_sem,ei,al]
  exact zG (i+1) ⟨om,om,ca 1 (by grind) rfl (Jy _) om (zD (by rfl) rfl)⟩
theorem xl2 (s:afE):(s.map yG==s)=s.all λc=>yG c==c:=by
 induction s<;>grind
theorem xI8 (s:afE):j8 s=(decide (1<=s.length/\s.length<=16)&&(!xN (s.headD 0)&&(s.all oS&&(s.all (λc=>yG c==c)&& !iL.contains s)))):=by
 have h:s.all th=(s.all oS&&s.all (λc=>yG c==c)):=by
  induction s with
  |nil=>rfl
  |cons c l ih=>
   grind[th,oS]
 grind[j8]
theorem xI9:oS 32=false:=dc
theorem Jz (s:afE) (hl:s.length<=maxLen):Pure prog 211 [.str s] (.bool (j8 s)):=by
 have aa:=xA5 s hl
 have ae:=RX oS s
 have af:=yU3 s hl
 have ag:=xl2 s
 have ah:=RW (s[0]?.getD 0)
 have ai:s.headD 0=s[0]?.getD 0:=by cases s<;>rfl
 have ab:(s.all oS)=true->Pure prog 272 [.str GL,.str (32::(s++ [32]))] (.bool (iL.contains s)):=λh=>by
  have h1: ∀c∈s,c≠32:=(by grind[xI9])
  have h2:=yl8 GL (32::(s++ [32])) dc
  grind[xE6]
 generalize hM:j8 s=M
 rw[xI8,ai]at hM
 generalize lT oS s=r at aa ae
 generalize s.map yG=u at af ag
 generalize xN (s[0]?.getD 0)=d at ah hM
 generalize (s.all λc=>yG c==c)=g at ag hM
 generalize iL.contains s=k at ab hM
 generalize s.all oS=w at ae ab hM
 have ret: ∀(b:Bool) (U:St),b=M->cj (some (.bool b)) 0 (λr s=>r= .bool M/\s= []) U:=λr U h=>by subst h;exact yL (zC rfl) sm
 unfold maxLen at hl
 refine iV 0 func211 ntmps211 results211 λc hc hb=> ?_
 refine zA ?_
 simp[go_sem]
 by_cases h0:s= []
 .subst h0
  have hM:M=false:=by grind
  simp[go_sem]
  exact ret _ _ hM.symm
 have h1:1<=s.length:=by
  grind
 have aj:s.isEmpty=false:=by
  grind
 simp[go_sem,aj]
 by_cases h2:16<s.length
 .have ad:decide ((16:Int)<s.length)=true:=by grind
  have hM:M=false:=by grind
  simp[go_sem,ad]
  exact ret _ _ hM.symm
 have ad:decide ((16:Int)<s.length)=false:=by grind
 rw[afd om,B2]at hM
 simp[go_sem,ad]
 refine zI om ?_
 simp[go_sem]
 refine pC ah ?_
 simp[go_sem]
 refine(A4 d).elim (λq=> ?_) (λq=> ?_)
 .have hM:M=false:=by grind
  simp[go_sem,q]
  exact ret _ _ hM.symm
 rw[q,Bool.not_false,B2]at hM
 simp[go_sem,q]
 refine pC aa ?_
 simp[go_sem]
 refine(A4 w).elim (λq2=> ?_) (λq2=> ?_)
 rotate_left
 .have hM:M=false:=by grind
  have hr:decide (r<s.length)=true:=by grind
  simp[go_sem,hr]
  exact ret _ _ hM.symm
 have hr:decide (r<s.length)=false:=by grind
 rw[q2,B2]at hM
 simp[go_sem,hr]
 refine pC af ?_
 simp[go_sem]
 refine(A4 g).elim (λq3=> ?_) (λq3=> ?_)
 rotate_left
 .have hM:M=false:=by grind
  have hu:(u==s)=false:=by grind
  simp[go_sem,hu]
  exact ret _ _ hM.symm
 have hu:(u==s)=true:=by grind
 rw[q3,B2]at hM
 simp[go_sem,hu]
 refine zI om ?_
 simp[go_sem]
 refine zI om ?_
 simp[go_sem]
 refine pC (ab q2) ?_
 simp[go_sem]
 exact ret _ _ hM
end Go.Proofs.YtefbicjgbaaieaaGreat
namespace Go.Proofs.YtefbicjgbaaieaaGreat
open Go Go.Vx R Go.Proofs.Tryz
set_option maxRecDepth 100000
def GM (s:afE):Int:=if rS s=0 then -1 else rS s
theorem yY6 (s:afE):Pure prog 273 [.str s] (.int .i64 (GM s)):=by
 have hM:GM s=if lJ.contains s=true then 1 else if j7.contains s=true then 2 else -1:=by
  unfold GM rS
  by_cases h1:j7.contains s=true
  .have h2:lJ.contains s=false:=by
    unfold j7 at h1
    simp only[Ds,List.contains_nil,Bool.or_false,Bg,afh]at h1
    rcases h1 with rfl|rfl|rfl|rfl|rfl|rfl|rfl|rfl|rfl|rfl|rfl|rfl|rfl<;>decide
   grind
  grind
 generalize GM s=M at hM⊢
 have ret: ∀(r:Int) (U:St),r=M->cj (some (.int .i64 r)) 0 (λr s=>r= .int .i64 M/\s= []) U:=λr U h=>by subst h;exact yL (zC rfl) sm
 unfold j7 lJ at hM
 simp only[Ds,List.contains_nil]at hM
 refine iW 0 func273 ntmps273 results273 λc hc hb=>zL ?_
 simp[go_sem]
 repeat' (first|(refine xD (λq=> ?_) (λq=> ?_)<;>simp[go_sem,q])|(refine zS (λq=> ?_) (λq=> ?_)<;>simp[go_sem,q]))
 all_goals exact ret _ _ (by simp_all)
def tM (e:bH):Bool:=e.kind==0&&(e.s.isEmpty&&(mM e.v&&e.args.isEmpty))
theorem xw4 (l:List bH) (hl:l.length<=maxLen):Pure prog 340 [.sl .ro (l.map bH.row),.sl .ro [],.fn 274 []] (.bool l.isEmpty):=by
 generalize hM:l.isEmpty=M
 have ret: ∀(r:Bool) (U:St),r=M->cj (some (.bool r)) 0 (λr s=>r= .bool M/\s= []) U:=λr U h=>by subst h;exact yL (zC rfl) sm
 refine iW 0 func340 ntmps340 results340 λc hc hb=>zL ?_
 cases l with
 |nil=>
  simp[go_sem]
  refine zH (S:=Unit) [15,16,17] (λ_=> [.sl .ro [],.int .i64 0,.int .i64 0]) (λ_=> []) (λ_=>0) (λ_=>True) hc hb () trivial ?_ ?_
  .exact gV rfl (zN (by rfl) rfl)
  rintro _ _
  refine zA ?_
  simp[go_sem]
  exact ret _ _ hM
 |cons x l=>
  have q:(((x::l).length:Int) !=0)=true:=by rfl
  simp only[Ab,Int.natCast_add,Bx]at q
  simp[go_sem,q]
  exact ret _ _ hM
theorem xQ5 (e:bH) (hw:e.args.length<=maxLen):Pure prog 274 [.agg e.row,.agg dh.row] (.bool (tM e)):=by
 have heq:=xw4 e.args hw
 generalize hM:tM e=M
 unfold tM mM at hM
 generalize e.args.isEmpty=b at heq hM
 have ret: ∀(r:Bool) (U:St),r=M->cj (some (.bool r)) 0 (λr s=>r= .bool M/\s= []) U:=λr U h=>by subst h;exact yL (zC rfl) sm
 have aa:(e.s== [])=e.s.isEmpty:=sm
 have ab:(e.v.s== [])=e.v.s.isEmpty:=sm
 have z1:dh.kind=0:=rfl
 have z2:dh.s= []:=rfl
 have z3:dh.v=⟨0,0,[]⟩:=rfl
 have z4:dh.args= []:=rfl
 refine iW 0 func274 ntmps274 results274 λc hc hb=>zL ?_
 simp[go_sem,z1,z2,z3,z4]
 repeat' (first
  |(refine xD (λq=> ?_) (λq=> ?_)<;>simp[go_sem,q])
  |(refine zS (λq=> ?_) (λq=> ?_)<;>simp[go_sem,q])
  |(refine pC heq ?_;simp[go_sem]))
 all_goals exact ret _ _ (by rw[<-hM];simp_all)
theorem R7 (e:bH) (hw:e.args.length<=maxLen):Pure prog 213 [.agg e.row] (.bool (tM e)):=by
 have h:=xQ5 e hw
 generalize tM e=b at h⊢
 refine iW 0 func213 ntmps213 results213 λc hc hb=>zL ?_
 simp[go_sem]
 refine zM h cB ⟨?_, ?_,tV⟩ rfl ?_
 .rw[bH.bN];exact zC rfl
 .rw[bH.bN]
  exact xx ⟨zU rfl,zU rfl,zU rfl,zU rfl,zU rfl,yX,tV⟩
 simp[go_sem]
 exact yL (zC rfl) sm
def fc:Nat->bH->Bool
 |0,_=>false
 |n+1,e=>
  if e.kind=1 then e.s.isEmpty&&(e.args.isEmpty&&(dO e.v&&decide (0<=e.v.n)))
  else if e.kind=2 then mM e.v&&(e.args.isEmpty&&j8 e.s)
  else if ¬e.kind=3\/mM e.v=false\/rS e.s=0\/ ¬(e.args.length:Int)=rS e.s then false
  else e.args.all (fc n)
theorem GN {J:Type} (p:J->Bool) (l:List J) (i:Nat) (h:i<l.length):(l.drop i).all p=(p l[i]&&(l.drop (i+1)).all p):=by
 grind[A2]
theorem GO: ∀(n:Nat) (e:bH),n<=1000->eU e->Good e->Pure prog 212 [.agg e.row,.int .i64 n] (.bool (fc n e))
 |n,e,hn,hw,hg=>by
  have hlen:=hw.len
  have ak:=hw.sub
  have an:=hg.sub
  have ih: ∀m,n=m+1-> ∀x∈e.args,Pure prog 212 [.agg x.row,.int .i64 m] (.bool (fc m x)):=λm hm x hx=>GO m x om (ak x hx) (an x hx)
  have ag:=EJ e.v
  have aa:=Jz e.s (by have:=hg.str;grind[maxLen])
  have ao:=yY6 e.s
  have hz:=RQ e.v
  obtain⟨M,hM⟩:=eX (fc n e)
  rw[hM]
  have ret: ∀(r:Bool) (U:St),r=M->cj (some (.bool r)) 0 (λr s=>r= .bool M/\s= []) U:=λr U h=>by subst h;exact yL (zC rfl) sm
  have ha:((e.args.length:Int)==0)=e.args.isEmpty:=by cases e.args<;>simp;omega
  have ar:(e.s== [])=e.s.isEmpty:=sm
  have au:(e.v.s== [])=e.v.s.isEmpty:=sm
  refine iV 0 func212 ntmps212 results212 λc hc hb=> ?_
  by_cases h0:n=0
  .subst h0
   rw[fc]at hM
   refine zA ?_
   simp[go_sem]
   exact ret _ _ hM
  obtain⟨m,rfl⟩: ∃m,n=m+1:=(by simp;omega)
  have ih:=ih m rfl
  rw[fc]at hM
  have al:(((m+1:Nat):Int)==0)=false:=by rfl
  have em:IntKind.i64.wrap (((m+1:Nat):Int) - 1)=(m:Int):=by grind[bR]
  have aq:IntKind.i64.wrap (m:Int)=(m:Int):=(by grind)
  refine zA ?_
  simp only[Int.natCast_add,Bx]at al em
  simp[go_sem,al]
  by_cases q1:e.kind=1
  .have af:(e.kind==1)=true:=by grind
   rw[afb q1]at hM
   generalize dO e.v=b at ag hM
   generalize e.args.isEmpty=ae at ha hM
   simp[go_sem,af]
   repeat' (first
    |(refine xD (λq=> ?_) (λq=> ?_)<;>simp[go_sem,q,ha])
    |(refine zM ag cB (zN sg rfl) rfl ?_;simp[go_sem]))
   all_goals exact ret _ _ (by rw[<-hM];simp_all)
  rw[afa q1]at hM
  have af:(e.kind==1)=false:=by grind
  by_cases q2:e.kind=2
  .have ah:(e.kind==2)=true:=by grind
   rw[afb q2]at hM
   unfold mM at hM
   generalize j8 e.s=b at aa hM
   generalize e.args.isEmpty=ae at ha hM
   simp[go_sem,af,ah]
   repeat' (first
    |(refine xD (λq=> ?_) (λq=> ?_)<;>simp[go_sem,q,ha])
    |(refine zM aa cB (zN sg rfl) rfl ?_;simp[go_sem]))
   all_goals exact ret _ _ (by rw[<-hM];simp_all)
  rw[afa q2]at hM
  have ah:(e.kind==2)=false:=by grind
  simp[go_sem,af,ah]
  refine nR [(15,0)] 1 sm (by rfl) kR ?_
  simp[go_sem]
  by_cases q3:e.kind=3
  rotate_left
  .have ai:(e.kind !=3)=true:=by grind
   rw[afb (.inl q3)]at hM
   simp[go_sem,ai]
   exact ret _ _ hM
  have ai:(e.kind !=3)=false:=by grind
  simp[go_sem,ai,hz]
  refine(A4 (mM e.v)).elim (λw=> ?_) (λw=> ?_)
  rotate_left
  .rw[afb (.inr (.inl w))]at hM
   simp[go_sem,w]
   exact ret _ _ hM
  simp[go_sem,w]
  refine qo ao cB (λ_=>zN (by rfl) rfl) rfl ?_
  unfold GM
  by_cases q4:rS e.s=0\/ ¬(e.args.length:Int)=rS e.s
  .have aj:((e.args.length:Int) !=(if rS e.s=0 then -1 else rS e.s))=true:=by
    grind
   rw[afb om]at hM
   simp[go_sem,aj]
   exact ret _ _ hM
  have aj:((e.args.length:Int) !=(if rS e.s=0 then -1 else rS e.s))=false:=by
   grind
  rw[afa (by grind)]at hM
  simp[go_sem,aj]
  obtain⟨args,ab⟩:=eX e.args
  rw[ab]at hM hlen ih
  simp[go_sem,ab]
  refine zH (S:=Nat) [1,73,74,75] (λi=> [.int .i64 ((m:Int)+1),.sl .ro (args.map bH.row),.int .i64 args.length,.int .i64 (i:Int)]) (λ_=> []) (λi=>args.length - i)
   (λi=>i<=args.length/\(args.drop i).all (fc m)=M) hc hb 0 (by grind) ?_ ?_
  .exact gV rfl (zN (by rfl) rfl)
  rintro i ⟨hi,hinv⟩
  by_cases q:i<args.length
  rotate_left
  .rw[A8 om]at hinv
   refine zA ?_
   simp[go_sem,q]
   exact ret _ _ hinv
  have ei:=zR q om
  rw[GN _ _ _ q]at hinv
  obtain⟨x,hx⟩:=eX (args[i])
  have ad:=ih x (hx▸Aa q)
  rw[hx]at hinv
  generalize fc m x=b at ad hinv
  refine zA ?_
  simp[go_sem,q,hx,aq]
  refine zM ad cB (zN sg (by rw[bH.bN];rfl)) rfl ?_
  refine(A4 b).elim (λp=> ?_) (λp=> ?_)
  .rw[p,B2]at hinv
   simp[go_sem,p,ei]
   exact zG (i+1) ⟨om,(by grind),gV rfl (zN (by rfl) rfl)⟩
  .rw[p,Dk]at hinv
   simp[go_sem,p]
   exact ret _ _ hinv
def sk (n:Nat) (x:cx):Bool:=if x.kind=1 then decide (n<=1)&&tM x.e else if x.kind=3 then tM x.e else if x.kind=2\/x.kind=4 then fc 16 x.e else false
def GP (l:List cx):Bool:=l.all (sk l.length)&&(decide (1<=l.length)&&decide (l.length<=6))
def sq (r:List bH):Bool:=(decide (1<=r.length)&&decide (r.length<=6))&&r.all (fc 16)
def GQ (l:List (List bH)):Bool:=l.all sq&&(decide (1<=l.length)&&decide (l.length<=16))
def iQ (x:bY):Bool:=j8 x.name&&fc 16 x.e
def GR (l:List bY):Bool:=(decide (1<=l.length)&&decide (l.length<=6))&&l.all iQ
theorem eH {b M:Bool} {U:St} (h:b=M):cj (some (.bool b)) 0 (λr s=>r= .bool M/\s= []) U:=by subst h;exact wR
theorem yU9 (l:List cx) (hl:l.length<=12) (hx: ∀x∈l,db x.kind/\jL x.e):Pure prog 214 [.sl .ro (l.map cx.row)] (.bool (GP l)):=by
 obtain⟨n,hn⟩:=eX l.length
 generalize hM:GP l=M
 unfold GP at hM
 rw[hn]at hM
 have e1:decide ((1:Int)<=n)=decide (1<=n):=decide_eq_decide.2 om
 have e2:decide ((n:Int)<=6)=decide (n<=6):=decide_eq_decide.2 om
 have e3:decide ((1:Int)<n)= !decide (n<=1):=by
  by_cases h:n<=1
  .rw[afd h,afc om];rfl
  .rw[afc h,afd om];rfl
 refine iV 0 func214 ntmps214 results214 λc hc hb=> ?_
 refine zA ?_
 simp[go_sem]
 refine zH (S:=Nat) [0,5,6,7] (λi=> [.sl .ro (l.map cx.row),.sl .ro (l.map cx.row),.int .i64 n,.int .i64 (i:Int)]) (λ_=> []) (λi=>n - i)
  (λi=>i<=n/\((l.drop i).all (sk n)&&(decide (1<=n)&&decide (n<=6)))=M) hc hb 0 ⟨A5 _,by rw[Az];exact hM⟩ ?_ ?_
 .exact gV rfl (zN (by simp[go_sem,hn]) rfl)
 rintro i ⟨hi,hinv⟩
 by_cases q:i<n
 rotate_left
 .rw[A8 om,D6,B2]at hinv
  refine zA ?_
  simp[go_sem,q,hn,e1]
  refine xD (λw=> ?_) (λw=> ?_)
  .simp[go_sem,w,hn,e2]
   exact eH (by rw[<-hinv,w,B2])
  .simp[go_sem,w]
   exact eH (by rw[<-hinv,w];rfl)
 have hq:i<l.length:=om
 have ei:=zR q om
 rw[GN _ _ _ hq]at hinv
 obtain⟨x,ag⟩:=eX (l[i])
 obtain⟨hk,hE⟩:=hx x (ag▸Aa hq)
 have ah:=R7 x.e (by have:=hE.wide.len;unfold maxLen;omega)
 have ae:=GO 16 x.e dc hE.wide hE.dD
 rw[ag]at hinv
 obtain⟨b,aa⟩:=eX (sk n x)
 rw[aa]at hinv
 unfold sk at aa
 have yes:b=true->((l.drop (i+1)).all (sk n)&&(decide (1<=n)&&decide (n<=6)))=M:=λh=>by rw[h,B2]at hinv;exact hinv
 have no:b=false->false=M:=λh=>by rw[h]at hinv;exact hinv
 clear hinv
 generalize tM x.e=bl at ah aa
 generalize fc 16 x.e=me at ae aa
 simp only[Bx]at ae
 refine zA ?_
 simp[go_sem,q,hq,ag]
 by_cases k1:x.kind=1
 .have ab:(x.kind==1)=true:=sU k1
  rw[afb k1]at aa
  simp[go_sem,ab,hn,e3]
  refine xD (λw=> ?_) (λw=> ?_)
  .have w2:decide (n<=1)=true:=sU w
   rw[w2,B2]at aa
   simp[go_sem,w2]
   refine zM ah cB (zN sg (by rw[bH.bN];rfl)) rfl ?_
   simp[go_sem]
   refine(A4 bl).elim (λw=> ?_) (λw=> ?_)
   .simp[go_sem,w,ei]
    exact zG (i+1) ⟨om,⟨om,yes (by rw[<-aa,w])⟩,aO⟩
   .simp[go_sem,w]
    exact eH (no (by rw[<-aa,w]))
  .have w2:decide (n<=1)=false:=sU w
   rw[w2,Dk]at aa
   simp[go_sem,w2]
   exact eH (no aa.symm)
 rw[afa k1]at aa
 have ab:(x.kind==1)=false:=sU k1
 by_cases k3:x.kind=3
 .have ad:(x.kind==3)=true:=sU k3
  rw[afb k3]at aa
  simp[go_sem,ab,ad]
  refine zM ah cB (zN sg (by rw[bH.bN];rfl)) rfl ?_
  simp[go_sem]
  refine(A4 bl).elim (λw=> ?_) (λw=> ?_)
  .simp[go_sem,w,ei]
   exact zG (i+1) ⟨om,⟨om,yes (by rw[<-aa,w])⟩,aO⟩
  .simp[go_sem,w]
   exact eH (no (by rw[<-aa,w]))
 rw[afa k3]at aa
 have ad:(x.kind==3)=false:=sU k3
 by_cases k2:x.kind=2
 .have af:(x.kind==2)=true:=sU k2
  rw[afb (.inl k2)]at aa
  simp[go_sem,ab,ad,af]
  refine zM ae cB (zN sg (by rw[bH.bN];rfl)) rfl ?_
  simp[go_sem]
  refine(A4 me).elim (λw=> ?_) (λw=> ?_)
  .simp[go_sem,w,ei]
   exact zG (i+1) ⟨om,⟨om,yes (by rw[<-aa,w])⟩,aO⟩
  .simp[go_sem,w]
   exact eH (no (by rw[<-aa,w]))
 have af:(x.kind==2)=false:=sU k2
 by_cases k4:x.kind=4
 .have ai:(x.kind==4)=true:=sU k4
  rw[afb (.inr k4)]at aa
  simp[go_sem,ab,ad,af,ai]
  refine zM ae cB (zN sg (by rw[bH.bN];rfl)) rfl ?_
  simp[go_sem]
  refine(A4 me).elim (λw=> ?_) (λw=> ?_)
  .simp[go_sem,w,ei]
   exact zG (i+1) ⟨om,⟨om,yes (by rw[<-aa,w])⟩,aO⟩
  .simp[go_sem,w]
   exact eH (no (by rw[<-aa,w]))
 have ai:(x.kind==4)=false:=sU k4
 rw[afa (λh=>h.elim k2 k4)]at aa
 simp[go_sem,ab,ad,af,ai]
 exact eH (no aa.symm)
def kn {J:Type} (p:J->Bool):List J->Nat->Int
 | [],_=> -1
 |x::l,i=>if p x=true then(i:Int)else kn p l (i+1)
theorem GS {J:Type} (p:J->Bool): ∀(l:List J) (i:Nat),decide (0<=kn p l i)=l.any p
 | [],i=>rfl
 |x::l,i=>by
  rw[kn,List.any_cons]
  split
  .rename_i h;rw[h];exact afd om
  .rename_i h
   have h:p x=false:=sU h
   rw[h,Bj,GS p l (i+1)]
theorem xX3 (x:bH) (hE:jL x):Pure prog 276 [.agg x.row] (.bool (!fc 16 x)):=by
 have aa:=GO 16 x dc hE.wide hE.dD
 generalize fc 16 x=b at aa⊢
 simp only[Bx]at aa
 refine iW 0 func276 ntmps276 results276 λc hc hb=>zL ?_
 simp[go_sem]
 refine zM aa cB (zN sg (by rw[bH.bN];rfl)) rfl ?_
 simp[go_sem]
 exact wR
theorem xX2 (x:bY) (hn:x.name.length<=maxLen) (hE:jL x.e):Pure prog 277 [.agg x.row] (.bool (!iQ x)):=by
 have aa:=GO 16 x.e dc hE.wide hE.dD
 have hw:=Jz x.name hn
 generalize hM:(!iQ x)=M
 unfold iQ at hM
 generalize fc 16 x.e=b at aa hM
 generalize j8 x.name=w at hw hM
 simp only[Bx]at aa
 refine iW 0 func277 ntmps277 results277 λc hc hb=>zL ?_
 simp[go_sem]
 refine zM hw cB (zN sg rfl) rfl ?_
 refine(A4 w).elim (λp=> ?_) (λp=> ?_)
 .simp[go_sem,p]
  refine zM aa cB (zN sg (by rw[bH.bN];rfl)) rfl ?_
  simp[go_sem]
  exact eH (by rw[<-hM,p,B2])
 .simp[go_sem,p]
  exact eH (by rw[<-hM,p];rfl)
theorem xY8 (l:List bH) (hl:l.length<=12) (hx: ∀x∈l,jL x):Pure prog 341 [.sl .ro (l.map bH.row),.fn 276 []] (.int .i64 (kn (λx=> !fc 16 x) l 0)):=by
 generalize hM:kn (λx=> !fc 16 x) l 0=M
 have ret: ∀(r:Int) (U:St),r=M->cj (some (.int .i64 r)) 0 (λr s=>r= .int .i64 M/\s= []) U:=λr U h=>by subst h;exact wR
 refine iV 0 func341 ntmps341 results341 λc hc hb=> ?_
 refine zA ?_
 simp[go_sem]
 refine zH (S:=Nat) [0,1,6,7,8] (λi=> [.sl .ro (l.map bH.row),.fn 276 [],.sl .ro (l.map bH.row),.int .i64 l.length,.int .i64 (i:Int)]) (λ_=> []) (λi=>l.length - i)
  (λi=>i<=l.length/\kn (λx=> !fc 16 x) (l.drop i) i=M) hc hb 0 ⟨A5 _,hM⟩ ?_ ?_
 .exact aO
 rintro i ⟨hi,hinv⟩
 by_cases q:i<l.length
 rotate_left
 .rw[A8 om]at hinv
  refine zA ?_
  simp[go_sem,q]
  exact ret _ _ hinv
 have ei:=zR q om
 obtain⟨x,ab⟩:=eX (l[i])
 rw[A2 q,ab,kn]at hinv
 have aa:=xX3 x (hx x (ab▸Aa q))
 generalize (!fc 16 x)=b at aa hinv
 refine zA ?_
 simp[go_sem,q,ab]
 refine zM aa cB (zN sg (by rw[bH.bN];rfl)) rfl ?_
 refine(A4 b).elim (λp=> ?_) (λp=> ?_)
 .rw[afb p]at hinv
  simp[go_sem,p]
  exact ret _ _ hinv
 .rw[afa (by rw[p];decide)]at hinv
  simp[go_sem,p,ei]
  exact zG (i+1) ⟨om,⟨om,hinv⟩,aO⟩
theorem xY3 (l:List bH) (hl:l.length<=12) (hx: ∀x∈l,jL x):Pure prog 275 [.sl .ro (l.map bH.row),.fn 276 []] (.bool (!l.all (fc 16))):=by
 have h:=xY8 l hl hx
 have hg:=GS (λx=> !fc 16 x) l 0
 have ha:l.any (λx=> !fc 16 x)= !l.all (fc 16):=by rw[List.all_eq_not_any_not,Bool.not_not]
 rw[ha]at hg
 rw[<-hg]
 generalize kn (λx=> !fc 16 x) l 0=n at h⊢
 refine iW 0 func275 ntmps275 results275 λc hc hb=>zL ?_
 simp[go_sem]
 refine zM h cB (zN sg rfl) rfl ?_
 simp[go_sem]
 exact wR
theorem xY5 (l:List bY) (hl:l.length<=12) (hx: ∀x∈l,x.name.length<=1048576/\jL x.e):Pure prog 278 [.sl .ro (l.map bY.row),.fn 277 []] (.int .i64 (kn (λx=> !iQ x) l 0)):=by
 generalize hM:kn (λx=> !iQ x) l 0=M
 have ret: ∀(r:Int) (U:St),r=M->cj (some (.int .i64 r)) 0 (λr s=>r= .int .i64 M/\s= []) U:=λr U h=>by subst h;exact wR
 refine iV 0 func278 ntmps278 results278 λc hc hb=> ?_
 refine zA ?_
 simp[go_sem]
 refine zH (S:=Nat) [0,1,6,7,8] (λi=> [.sl .ro (l.map bY.row),.fn 277 [],.sl .ro (l.map bY.row),.int .i64 l.length,.int .i64 (i:Int)]) (λ_=> []) (λi=>l.length - i)
  (λi=>i<=l.length/\kn (λx=> !iQ x) (l.drop i) i=M) hc hb 0 ⟨A5 _,hM⟩ ?_ ?_
 .exact aO
 rintro i ⟨hi,hinv⟩
 by_cases q:i<l.length
 rotate_left
 .rw[A8 om]at hinv
  refine zA ?_
  simp[go_sem,q]
  exact ret _ _ hinv
 have ei:=zR q om
 obtain⟨x,ab⟩:=eX (l[i])
 rw[A2 q,ab,kn]at hinv
 obtain⟨ae,ad⟩:=hx x (ab▸Aa q)
 have aa:=xX2 x (by unfold maxLen;omega) ad
 generalize (!iQ x)=b at aa hinv
 refine zA ?_
 simp[go_sem,q,ab]
 refine zM aa cB (zN sg rfl) rfl ?_
 refine(A4 b).elim (λp=> ?_) (λp=> ?_)
 .rw[afb p]at hinv
  simp[go_sem,p]
  exact ret _ _ hinv
 .rw[afa (by rw[p];decide)]at hinv
  simp[go_sem,p,ei]
  exact zG (i+1) ⟨om,⟨om,hinv⟩,aO⟩
theorem xY1 (l:List bY) (hl:l.length<=12) (hx: ∀x∈l,x.name.length<=1048576/\jL x.e):Pure prog 218 [.sl .ro (l.map bY.row),.fn 277 []] (.bool (!l.all iQ)):=by
 have h:=xY5 l hl hx
 have hg:=GS (λx=> !iQ x) l 0
 have ha:l.any (λx=> !iQ x)= !l.all iQ:=by rw[List.all_eq_not_any_not,Bool.not_not]
 rw[ha]at hg
 rw[<-hg]
 generalize kn (λx=> !iQ x) l 0=n at h⊢
 refine iW 0 func218 ntmps218 results218 λc hc hb=>zL ?_
 simp[go_sem]
 refine zM h cB (zN sg rfl) rfl ?_
 simp[go_sem]
 exact wR
theorem GU (n:Nat):decide ((1:Int)<=n)=decide (1<=n):=(by grind)
theorem R8 (n k:Nat):decide ((n:Int)<=k)=decide (n<=k):=sm
theorem xn2 (l:List (List bH)) (hl:l.length<=20) (hx: ∀r∈l,r.length<=12/\ ∀e∈r,jL e):Pure prog 215 [.sl .ro (l.map λr=> [V.sl .ro (r.map bH.row)])] (.bool (GQ l)):=by
 obtain⟨n,hn⟩:=eX l.length
 generalize hM:GQ l=M
 unfold GQ at hM
 rw[hn]at hM
 have e1:=GU n
 have e2:decide ((n:Int)<=16)=decide (n<=16):=R8 n 16
 refine iV 0 func215 ntmps215 results215 λc hc hb=> ?_
 refine zA ?_
 simp[go_sem]
 refine zH (S:=Nat) [0,5,6,7] (λi=> [.sl .ro (l.map λr=> [V.sl .ro (r.map bH.row)]),.sl .ro (l.map λr=> [V.sl .ro (r.map bH.row)]),.int .i64 n,.int .i64 (i:Int)]) (λ_=> []) (λi=>n - i)
  (λi=>i<=n/\((l.drop i).all sq&&(decide (1<=n)&&decide (n<=16)))=M) hc hb 0 (by grind) ?_ ?_
 .exact gV rfl (zN (by simp[go_sem,hn]) rfl)
 rintro i ⟨hi,hinv⟩
 by_cases q:i<n
 rotate_left
 .rw[A8 om,D6,B2]at hinv
  refine zA ?_
  simp[go_sem,q,hn,e1]
  refine xD (λw=> ?_) (λw=> ?_)
  .simp[go_sem,w,hn,e2]
   exact eH (by grind)
  .simp[go_sem,w]
   exact eH (by grind)
 have hq:i<l.length:=om
 have ei:=zR q om
 rw[GN _ _ _ hq]at hinv
 obtain⟨r,hr⟩:=eX (l[i])
 obtain⟨af,ag⟩:=hx r (by grind)
 have aa:=xY3 r af ag
 rw[hr]at hinv
 obtain⟨b,ab⟩:=eX (sq r)
 rw[ab]at hinv
 unfold sq at ab
 have yes:b=true->((l.drop (i+1)).all sq&&(decide (1<=n)&&decide (n<=16)))=M:=(by grind)
 have no:b=false->false=M:=(by grind)
 clear hinv
 generalize r.all (fc 16)=ra at aa ab
 have ad:((r.length:Int)==0)= !decide (1<=r.length):=by
  grind
 have ae:decide ((6:Int)<r.length)= !decide (r.length<=6):=by
  grind
 generalize decide (1<=r.length)=d1 at ad ab
 generalize decide (r.length<=6)=d2 at ae ab
 refine zA ?_
 simp[go_sem,q,hq,hr,ad]
 refine(A4 d1).elim (λw=> ?_) (λw=> ?_)
 rotate_left
 .simp[go_sem,w]
  exact eH (by grind)
 simp[go_sem,w,ae]
 refine(A4 d2).elim (λw2=> ?_) (λw2=> ?_)
 rotate_left
 .simp[go_sem,w2]
  exact eH (by grind)
 simp[go_sem,w2]
 refine zM aa cB (zN (by rfl) rfl) rfl ?_
 simp[go_sem]
 refine(A4 ra).elim (λw3=> ?_) (λw3=> ?_)
 .simp[go_sem,w3,ei]
  exact zG (i+1) ⟨om,(by grind),gV rfl (zN (by rfl) rfl)⟩
 .simp[go_sem,w3]
  exact eH (by grind)
theorem xn3 (l:List bY) (hl:l.length<=12) (hx: ∀x∈l,x.name.length<=1048576/\jL x.e):Pure prog 216 [.sl .ro (l.map bY.row)] (.bool (GR l)):=by
 have aa:=xY1 l hl hx
 generalize hM:GR l=M
 unfold GR at hM
 generalize l.all iQ=a at aa hM
 obtain⟨n,hn⟩:=eX l.length
 rw[hn]at hM
 have e1:=GU n
 have e2:decide ((n:Int)<=6)=decide (n<=6):=R8 n 6
 refine iW 0 func216 ntmps216 results216 λc hc hb=>zL ?_
 simp[go_sem,hn,e1]
 refine xD (λw=> ?_) (λw=> ?_)
 rotate_left
 .simp[go_sem,w]
  exact eH (by grind)
 simp[go_sem,w,hn,e2]
 refine xD (λw2=> ?_) (λw2=> ?_)
 rotate_left
 .simp[go_sem,w2]
  exact eH (by grind)
 simp[go_sem,w2]
 refine zM aa cB (zN (by rfl) rfl) rfl ?_
 simp[go_sem]
 exact eH (by grind)
def R9 (st:bQ):Bool:=
 !((!(st.kind==1)&&(!st.items.isEmpty||(!st.order.isEmpty||(st.down|| !(st.dg==0)))))||((!(st.kind==2)&& !st.rows.isEmpty)||(!(st.kind==3)&& !st.cu.isEmpty)))
def Sa (st:bQ):Bool:=j8 st.table&&(if st.dq=true then fc 16 st.ct else tM st.ct)
def MW (st:bQ):Bool:=
 if st.kind=1 then GP st.items&&(((st.order.isEmpty&& !st.down)||j8 st.order)&&decide (-1<=st.dg))
 else if st.kind=2 then GQ st.rows&& !st.dq
 else if st.kind=3 then GR st.cu
 else st.kind==4
def gY (st:bQ):Bool:=Sa st&&(R9 st&&MW st)
theorem MX {J:Type} (l:List J):decide (0<l.length)= !l.isEmpty:=by
 grind
theorem xn4 (st:bQ) (hs:kg st):Pure prog 140 [.agg st.row] (.bool (gY st)):=by
 have ah:=Jz st.table (by have:=hs.table;grind[maxLen])
 have ai:=Jz st.order (by have:=hs.order;grind[maxLen])
 have ae:=GO 16 st.ct dc hs.ct.wide hs.ct.dD
 have aj:=R7 st.ct (by have:=hs.ct.wide.len;grind[maxLen])
 have hit:=yU9 st.items hs.items.1 hs.items.2
 have ak:=xn2 st.rows hs.rows.1 hs.rows.2
 have al:=xn3 st.cu hs.cu.1 hs.cu.2
 simp only[Bx]at ae
 generalize hM:gY st=M
 unfold gY Sa R9 MW at hM
 obtain⟨k,hk⟩:=eX st.kind
 obtain⟨f,hf⟩:=eX st.dq
 obtain⟨d,hd⟩:=eX st.down
 rw[hk,hf,hd]at hM
 generalize j8 st.table=wt at ah hM
 generalize j8 st.order=wo at ai hM
 generalize fc 16 st.ct=me at ae hM
 generalize tM st.ct=bl at aj hM
 generalize GP st.items=mi at hit hM
 generalize GQ st.rows=mr at ak hM
 generalize GR st.cu=ms at al hM
 have an:=MX st.items
 have ao:=MX st.rows
 have aq:=MX st.cu
 have a1:(st.order != [])= !st.order.isEmpty:=by grind
 have ax:(st.order== [])=st.order.isEmpty:=sm
 generalize st.items.isEmpty=ie at an hM
 generalize st.rows.isEmpty=re at ao hM
 generalize st.cu.isEmpty=se at aq hM
 have hz: ∀b:Bool,b=M-> ∀U:St,cj (some (.bool b)) 0 (λr s=>r= .bool M/\s= []) U:=λb h U=>eH h
 have af:((wt&&(if f=true then me else bl))=false->false=M)/\((wt&&(if f=true then me else bl))=true->(!((!(k==1)&&(!ie||(!st.order.isEmpty||(d|| !(st.dg==0)))))||((!(k==2)&& !re)||(!(k==3)&& !se)))&&(if k=1 then mi&&(((st.order.isEmpty&& !d)||wo)&&decide (-1<=st.dg))else if k=2 then mr&& !f else if k=3 then ms else k==4))=M):=by
  grind
 obtain⟨ay,ad⟩:=af
 clear hM
 refine iV 0 func140 ntmps140 results140 λc hc hb=> ?_
 refine zO (zA ?_)
 simp[go_sem]
 refine nM (S:=Unit) [1] (λ_=> [.ptr 0 0]) (λ_=> [.box st.row]) (λ_=>(wt&&(if f=true then me else bl))=true) hc hb ?_ ?_
 .refine zA ?_
  simp[go_sem]
  refine zM ah cB (zN (by rfl) rfl) rfl ?_
  refine(A4 wt).elim (λw=> ?_) (λw=> ?_)
  rotate_left
  .simp[go_sem,w]
   exact eH (by grind)
  simp[go_sem,w,hf]
  refine(A4 f).elim (λw2=> ?_) (λw2=> ?_)
  .simp[go_sem,w2]
   refine zM ae cB (zN sg (by rw[bH.bN];rfl)) rfl ?_
   refine(A4 me).elim (λw3=> ?_) (λw3=> ?_)
   .simp[go_sem,w3,w2]
    exact zG () ⟨by grind,ca 1 (by grind) rfl (by rfl) om (zD (by rfl) rfl)⟩
   .simp[go_sem,w3]
    exact eH (by grind)
  .simp[go_sem,w2]
   refine zM aj cB (zN sg (by rw[bH.bN];rfl)) rfl ?_
   refine(A4 bl).elim (λw3=> ?_) (λw3=> ?_)
   .simp[go_sem,w3]
    exact zG () ⟨by grind,ca 1 (by grind) rfl (by rfl) om (zD (by rfl) rfl)⟩
   .simp[go_sem,w3]
    exact eH (by grind)
 .rintro _ h1
  have hM:=ad h1
  clear ay ad
  generalize hB:(if k=1 then mi&&(((st.order.isEmpty&& !d)||wo)&&decide (-1<=st.dg))else if k=2 then mr&& !f else if k=3 then ms else k==4)=B at hM
  obtain⟨S,hS⟩:=eX (((!(k==1)&&(!ie||(!st.order.isEmpty||(d|| !(st.dg==0)))))||((!(k==2)&& !re)||(!(k==3)&& !se))))
  rw[hS]at hM
  have no:S=true->false=M:=(by grind)
  have yes:S=false->B=M:=(by grind)
  clear hM
  have ar:(st.dg !=0)= !(st.dg==0):=rfl
  have au:(st.kind !=2)= !(k==2):=by grind
  have av:(st.kind !=3)= !(k==3):=by grind
  have aw:(st.kind==1)=(k==1):=by rw[hk]
  refine zO (zA ?_)
  simp[go_sem]
  refine nM (S:=Unit) [1] (λ_=> [.ptr 0 0]) (λ_=> [.box st.row]) (λ_=>S=false) hc hb ?_ ?_
  .generalize (st.dg==0)=l0 at ar hS
   generalize (k==1)=k1 at aw hS
   generalize (k==2)=k2 at au hS
   generalize (k==3)=k3 at av hS
   clear yes hB
   refine zA ?_
   simp[go_sem,aw]
   repeat' (first
    |(refine xD (λw=> ?_) (λw=> ?_)<;>simp[go_sem,w,au,av,ar,an,ao,aq,hd])
    |(refine zS (λw=> ?_) (λw=> ?_)<;>simp[go_sem,w]))
   all_goals first
    |exact eH (by grind)
    |exact zG () ⟨by rw[<-hS];simp_all,ca 1 (by simp[go_sem,hd]<;>simp_all) rfl (by simp[bP,cK,cG]) om (zD sg rfl)⟩
  .rintro _ az
   have hM:=yes az
   rw[<-hB]at hM
   clear yes no hS hB
   refine zA ?_
   simp[go_sem,hk]
   by_cases k1:k=1
   .have aa:(k==1)=true:=by grind
    rw[afb k1]at hM
    have a6:decide (-1<=st.dg)=decide (-1<=st.dg):=rfl
    simp[go_sem,aa]
    refine zM hit cB (zN (by rfl) rfl) rfl ?_
    simp[go_sem]
    repeat' (first
     |(refine xD (λw=> ?_) (λw=> ?_)<;>simp[go_sem,w,ax,hd])
     |(refine zM ai cB (zN sg rfl) rfl ?_;simp[go_sem]))
    all_goals exact eH (by rw[<-hM];simp_all)
   have aa:(k==1)=false:=by grind
   rw[afa k1]at hM
   by_cases k2:k=2
   .have ab:(k==2)=true:=by grind
    rw[afb k2]at hM
    simp[go_sem,aa,ab]
    refine zM ak cB (zN (by rfl) rfl) rfl ?_
    simp[go_sem]
    refine(A4 mr).elim (λw=> ?_) (λw=> ?_)
    .simp[go_sem,w,hf]
     exact eH (by grind)
    .simp[go_sem,w]
     exact eH (by grind)
   have ab:(k==2)=false:=by grind
   rw[afa k2]at hM
   by_cases k3:k=3
   .have ag:(k==3)=true:=by grind
    rw[afb k3]at hM
    simp[go_sem,aa,ab,ag]
    refine zM al cB (zN (by rfl) rfl) rfl ?_
    simp[go_sem]
    exact eH hM
   have ag:(k==3)=false:=by grind
   rw[afa k3]at hM
   simp[go_sem,aa,ab,ag]
   exact eH hM
def JA (l:fj):Bool:=(decide (0<=l.mode)&&(decide (l.mode<=2)&&(decide (0<=l.n)&&(!(l.mode==0&& !(l.n==0))))))&&(decide (1<=l.stmts.length)&&decide (l.stmts.length<=8))
def kX (l:fj):Bool:=JA l&&l.stmts.all gY
theorem xr2 (l:fj) (hl:nu l):Pure prog 84 [.agg l.row] (.bool (kX l)):=by
 obtain⟨L,hL⟩:=eX l.stmts
 obtain⟨m,hm⟩:=eX l.mode
 obtain⟨n,hn⟩:=eX l.n
 obtain⟨af,ad⟩:=hl.stmts
 rw[hL]at af ad
 generalize hM:kX l=M
 unfold kX JA at hM
 rw[hL,hm,hn]at hM
 have no: ∀h:Bool,(h&&L.all gY)=M->h=false->false=M:=sm
 refine iV 0 func84 ntmps84 results84 λc hc hb=> ?_
 refine zO (zA ?_)
 simp[go_sem]
 refine nM (S:=Unit) [1] (λ_=> [.ptr 0 0]) (λ_=> [.box l.row]) (λ_=>L.all gY=M) hc hb ?_ ?_
 .have d1:decide (m<0)= !decide (0<=m):=by
   grind
  have d2:decide (2<m)= !decide (m<=2):=by
   grind
  have d3:decide (n<0)= !decide (0<=n):=by
   grind
  have d4:((L.length:Int)==0)= !decide (1<=L.length):=by
   grind
  have d5:decide ((8:Int)<L.length)= !decide (L.length<=8):=by
   grind
  have d6:(n !=0)= !(n==0):=rfl
  generalize decide (0<=m)=b1 at d1 hM
  generalize decide (m<=2)=b2 at d2 hM
  generalize decide (0<=n)=b3 at d3 hM
  generalize decide (1<=L.length)=b4 at d4 hM
  generalize decide (L.length<=8)=b5 at d5 hM
  generalize (n==0)=b6 at d6 hM
  have ag:=no _ hM
  have ae:((b1&&(b2&&(b3&&(!(m==0&& !b6)))))&&(b4&&b5))=true->L.all gY=M:=(by grind)
  generalize ah:(m==0)=b7 at ag ae
  clear hM no
  refine zA ?_
  simp[go_sem,hm,hn,hL,d1]
  repeat' (first
   |(refine xD (λw=> ?_) (λw=> ?_)<;>simp[go_sem,w,ah,d2,d3,d4,d5,d6])
   |(refine zS (λw=> ?_) (λw=> ?_)<;>simp[go_sem,w]))
  all_goals first
   |exact eH (by grind)
   |exact zG () ⟨(by grind),ca 1 (by simp[go_sem,hm,hn,hL]) rfl (by simp[bP,cK,cG]) om (zD sg rfl)⟩
 .rintro _ hM
  refine zA ?_
  simp[go_sem,hL]
  refine zH (S:=Nat) [41,42,43] (λi=> [.sl .ro (L.map bQ.row),.int .i64 L.length,.int .i64 (i:Int)]) (λ_=> []) (λi=>L.length - i) (λi=>i<=L.length/\(L.drop i).all gY=M) hc hb 0 (by grind) ?_ ?_
  .exact gV rfl (zN (by rfl) rfl)
  rintro i ⟨hi,hinv⟩
  by_cases q:i<L.length
  rotate_left
  .rw[A8 om]at hinv
   refine zA ?_
   simp[go_sem,q]
   exact eH hinv
  have ei:=zR q om
  rw[GN _ _ _ q]at hinv
  obtain⟨st,ab⟩:=eX (L[i])
  have aa:=xn4 st (ad st (ab▸Aa q))
  rw[ab]at hinv
  generalize gY st=b at aa hinv
  refine zA ?_
  simp[go_sem,q,ab]
  refine zM aa cB (zN (by rfl) rfl) rfl ?_
  refine(A4 b).elim (λp=> ?_) (λp=> ?_)
  .rw[p,B2]at hinv
   simp[go_sem,p,ei]
   exact zG (i+1) ⟨om,(by grind),gV rfl (zN (by rfl) rfl)⟩
  .rw[p,Dk]at hinv
   simp[go_sem,p]
   exact eH hinv
def oi (T:bI) (e:bH) (want:Int):Int:=if(ia T e).2≠0 then(ia T e).2 else if(ia T e).1≠want/\(ia T e).1≠0 then 15 else 0
theorem ef {b M:Int} {U:St} (h:b=M):cj (some (.int .i64 b)) 0 (λr s=>r= .int .i64 M/\s= []) U:=by subst h;exact wR
theorem JB (T:bI) (hT:T.bW.length<=maxLen) (e:bH) (he:jL e) (want:Int):Pure prog 217 [.agg T.row,.agg e.row,.int .i64 want] (.int .i64 (oi T e want)):=by
 have h:=Jx T hT e he
 generalize hM:oi T e want=M
 unfold oi at hM
 generalize ia T e=k at h hM
 refine iW 0 func217 ntmps217 results217 λc hc hb=>zL ?_
 simp[go_sem]
 refine zM h cB (zN sg (by rw[bH.bN];rfl)) rfl ?_
 simp[go_sem,wJ]
 by_cases q1:k.2=0
 rotate_left
 .have aa:(k.2 !=0)=true:=sU q1
  rw[afb q1]at hM
  simp[go_sem,aa]
  exact ef hM
 have aa:(k.2 !=0)=false:=sU q1
 rw[afa (λh=>h q1)]at hM
 simp[go_sem,aa]
 by_cases q2:k.1=want
 .have ab:(k.1 !=want)=false:=sU q2
  rw[afa (λh=>h.1 q2)]at hM
  simp[go_sem,ab]
  exact ef hM
 have ab:(k.1 !=want)=true:=sU q2
 simp[go_sem,ab]
 by_cases q3:k.1=0
 .have ad:(k.1 !=0)=false:=sU q3
  rw[afa (λh=>h.2 q3)]at hM
  simp[go_sem,ad]
  exact ef hM
 .have ad:(k.1 !=0)=true:=sU q3
  rw[afb ⟨q2,q3⟩]at hM
  simp[go_sem,ad]
  exact ef hM
def yn (T:bI) (st:bQ):Int:=if st.dq=true then oi T st.ct 1 else 0
theorem Sb (T:bI) (hT:T.bW.length<=maxLen) (st:bQ) (hs:kg st):Pure prog 144 [.agg T.row,.agg st.row] (.int .i64 (yn T st)):=by
 have h:=JB T hT st.ct hs.ct 1
 generalize hM:yn T st=M
 unfold yn at hM
 generalize oi T st.ct 1=k at h hM
 refine iW 0 func144 ntmps144 results144 λc hc hb=>zL ?_
 simp[go_sem]
 refine(A4 st.dq).elim (λw=> ?_) (λw=> ?_)
 .rw[afb w]at hM
  simp[go_sem,w]
  refine zM h cB (zN sg (by rw[bH.bN];rfl)) rfl ?_
  simp[go_sem]
  exact ef hM
 .rw[afa (by rw[w];decide)]at hM
  simp[go_sem,w]
  exact ef hM
def EP (T:bI) (x:cx):Int:=if x.kind=2 then(ia T x.e).2 else if x.kind=4 then oi T x.e 2 else 0
def pU (T:bI):List cx->Int
 | []=>0
 |x::l=>if EP T x≠0 then EP T x else pU T l
def sr (l:List cx):Bool:=l.any λx=>x.kind==2
def qI (l:List cx):Bool:=l.any λx=>x.kind==3||x.kind==4
def GV (T:bI) (st:bQ):Int:=if st.order.isEmpty=true then 0 else if cy T st.order<0 then 14 else if qI st.items=true then 9 else 0
def JC (T:bI) (st:bQ):Int:=
 if pU T st.items≠0 then pU T st.items else if(sr st.items&&qI st.items)=true then 9 else if yn T st≠0 then yn T st else GV T st
theorem xu6 (T:bI) (hT:T.bW.length<=maxLen) (st:bQ) (hs:kg st):Pure prog 141 [.agg T.row,.agg st.row] (.int .i64 (JC T st)):=by
 obtain⟨L,hL⟩:=eX st.items
 obtain⟨an,ai⟩:=hs.items
 rw[hL]at an ai
 have ah:=Sb T hT st hs
 have af:=EN T st.order hT
 rw[show jz (λc:eT=>c.name==st.order) T.bW 0=cy T st.order from rfl]at af
 generalize hM:JC T st=M
 unfold JC GV at hM
 rw[hL]at hM
 refine iV 0 func141 ntmps141 results141 λc hc hb=> ?_
 refine zO (zA ?_)
 simp[go_sem]
 refine zO (zA ?_)
 simp[go_sem]
 refine nM (S:=Unit) [2,3,5,6] (λ_=> [.ptr 0 0,.ptr 1 0,.bool (sr L),.bool (qI L)]) (λ_=> [.box T.row,.box st.row]) (λ_=>pU T L=0) hc hb ?_ ?_
 .refine zO (zA ?_)
  simp[go_sem,hL]
  refine qp ?_
  refine zH (S:=Nat×Bool×Bool) [2,3,5,6,12,13,14] (λu=> [.ptr 0 0,.ptr 1 0,.bool u.2.1,.bool u.2.2,.sl .ro (L.map cx.row),.int .i64 L.length,.int .i64 (u.1:Int)]) (λ_=> [.box T.row,.box st.row]) (λu=>L.length - u.1)
   (λu=>u.1<=L.length/\(u.2.1||sr (L.drop u.1))=sr L/\(u.2.2||qI (L.drop u.1))=qI L/\pU T (L.drop u.1)=pU T L) hc hb (0,false,false) ⟨A5 _,sm,sm,sm⟩ ?_ ?_
  .exact ca 2 (by simp[go_sem,hL]) rfl (by simp[bP,cK,cG,bI.row,bQ.row]) (A5 _) (zD sg rfl)
  rintro⟨i,pl,wh⟩ ⟨hi,hp,hw,hinv⟩
  simp only at hi hp hw hinv
  by_cases q:i<L.length
  rotate_left
  .rw[A8 om]at hp hw hinv
   have hp:pl=sr L:=by rw[<-hp];exact(Bool.or_false _).symm
   have hw:wh=qI L:=by rw[<-hw];exact(Bool.or_false _).symm
   refine zA ?_
   simp[go_sem,q]
   exact zG () ⟨hinv.symm,aM 2 (by simp[bP,cK,cG]) (zD (by simp[go_sem,hp,hw]) rfl)⟩
  have ei:=zR q om
  obtain⟨x,hx⟩:=eX (L[i])
  have hE:=(ai x (hx▸Aa q)).2
  rw[A2 q,hx]at hp hw hinv
  unfold sr at hp
  unfold qI at hw
  rw[List.any_cons]at hp hw
  rw[pU]at hinv
  have bad:EP T x≠0->EP T x=M:=λh=>by
   rw[afb h]at hinv
   rw[<-hM,<-hinv,afb h]
  have dD:EP T x=0->pU T (L.drop (i+1))=pU T L:=λh=>by
   rw[afa (λg=>g h)]at hinv
   exact hinv
  clear hinv
  unfold EP at bad dD
  have aj:=Jx T hT x.e hE
  have ak:=JB T hT x.e hE 2
  generalize ia T x.e=ty at aj bad dD
  generalize oi T x.e 2=kc at ak bad dD
  have go: ∀(a b:Bool) (e U),(a||sr (L.drop (i+1)))=sr L->(b||qI (L.drop (i+1)))=qI L->pU T (L.drop (i+1))=pU T L->At 0 [2,3,5,6,12,13,14] [.ptr 0 0,.ptr 1 0,.bool a,.bool b,.sl .ro (L.map cx.row),.int .i64 L.length,.int .i64 ((i+1:Nat):Int)] [.box T.row,.box st.row] e U->
   Vx.Next (λs':Nat×Bool×Bool=>L.length - s'.1<L.length - i/\(s'.1<=L.length/\(s'.2.1||sr (L.drop s'.1))=sr L/\(s'.2.2||qI (L.drop s'.1))=qI L/\pU T (L.drop s'.1)=pU T L)/\At 0 [2,3,5,6,12,13,14] [.ptr 0 0,.ptr 1 0,.bool s'.2.1,.bool s'.2.2,.sl .ro (L.map cx.row),.int .i64 L.length,.int .i64 (s'.1:Int)] [.box T.row,.box st.row] e U) fx:=λa b e U h1 h2 h3 h4=>
    zG (i+1,a,b) ⟨by simp only;omega,⟨by simp only;omega,h1,h2,h3⟩,h4⟩
  refine zA ?_
  simp[go_sem,q,hx]
  by_cases k2:x.kind=2
  .have ab:(x.kind==2)=true:=sU k2
   rw[afb k2]at bad dD
   have ao:(x.kind==3||x.kind==4)=false:=by rw[k2];rfl
   simp only[ab,D5,Dy]at hp
   simp only[ao,Bj]at hw
   simp[go_sem,ab]
   refine zM aj cB (zN sg (by rw[bH.bN];rfl)) rfl ?_
   by_cases qe:ty.2=0
   .have aa:(ty.2 !=0)=false:=sU qe
    simp[go_sem,wJ,aa,ei]
    exact go true wh _ _ (by rw[D5];exact hp) hw (dD qe) (aN 2 (by simp[bP,cK,cG,bI.row,bQ.row]))
   .have aa:(ty.2 !=0)=true:=sU qe
    simp[go_sem,wJ,aa]
    exact ef (bad qe)
  rw[afa k2]at bad dD
  have ab:(x.kind==2)=false:=sU k2
  simp only[ab,Bj]at hp
  by_cases k4:x.kind=4
  .have ae:(x.kind==4)=true:=sU k4
   rw[afb k4]at bad dD
   simp only[ae,D5,Dy]at hw
   simp[go_sem,ab,ae]
   refine zM ak cB (zN sg (by rw[bH.bN];rfl)) rfl ?_
   by_cases qe:kc=0
   .have aa:(kc !=0)=false:=sU qe
    simp[go_sem,aa,ei]
    exact go pl true _ _ hp (by rw[D5];exact hw) (dD qe) (aN 2 (by simp[bP,cK,cG,bI.row,bQ.row]))
   .have aa:(kc !=0)=true:=sU qe
    simp[go_sem,aa]
    exact ef (bad qe)
  rw[afa k4]at bad dD
  have ae:(x.kind==4)=false:=sU k4
  by_cases k3:x.kind=3
  .have ag:(x.kind==3)=true:=sU k3
   simp only[ag,D5,Dy]at hw
   simp[go_sem,ab,ae,ag,ei]
   exact go pl true _ _ hp (by rw[D5];exact hw) (dD rfl) (aN 2 (by simp[bP,cK,cG,bI.row,bQ.row]))
  .have ag:(x.kind==3)=false:=sU k3
   simp only[ag,ae,Bj]at hw
   simp[go_sem,ab,ae,ag,ei]
   exact go pl wh _ _ hp hw (dD rfl) (aN 2 (by simp[bP,cK,cG,bI.row,bQ.row]))
 .rintro _ hI
  rw[afa (λh=>h hI)]at hM
  generalize sr L=pl at hM⊢
  generalize qI L=wh at hM⊢
  generalize yn T st=wc at ah hM
  have al:(st.order== [])=st.order.isEmpty:=by cases st.order<;>rfl
  refine zA ?_
  simp[go_sem]
  refine(A4 (pl&&wh)).elim (λw=> ?_) (λw=> ?_)
  .rw[afb w]at hM
   have w1:pl:=by cases pl<;>simp_all
   have w2:wh:=by cases wh<;>simp_all
   simp[go_sem,w1,w2]
   exact ef hM
  rw[afa (by rw[w];decide)]at hM
  refine xD (λw1=> ?_) (λw1=> ?_)
  .have w2:wh=false:=by cases wh<;>simp_all
   simp[go_sem,w1,w2]
   refine zM ah cB (zN sg rfl) rfl ?_
   by_cases qe:wc=0
   rotate_left
   .have aa:(wc !=0)=true:=sU qe
    rw[afb qe]at hM
    simp[go_sem,aa]
    exact ef hM
   have aa:(wc !=0)=false:=sU qe
   rw[afa (λh=>h qe)]at hM
   simp[go_sem,aa,al]
   refine(A4 st.order.isEmpty).elim (λw3=> ?_) (λw3=> ?_)
   .rw[afb w3]at hM
    simp[go_sem,w3]
    exact ef hM
   rw[afa (by rw[w3];decide)]at hM
   simp[go_sem,w3]
   refine zM af cB (zN sg rfl) rfl ?_
   by_cases qc:cy T st.order<0
   .have ad:decide (cy T st.order<0)=true:=afd qc
    rw[afb qc]at hM
    simp[go_sem,ad]
    exact ef hM
   have ad:decide (cy T st.order<0)=false:=afc qc
   rw[afa qc]at hM
   simp[go_sem,ad]
   rw[afa (by rw[w2];decide)]at hM
   exact ef hM
  .have w1:pl=false:=sU w1
   simp[go_sem,w1]
   refine zM ah cB (zN sg rfl) rfl ?_
   by_cases qe:wc=0
   rotate_left
   .have aa:(wc !=0)=true:=sU qe
    rw[afb qe]at hM
    simp[go_sem,aa]
    exact ef hM
   have aa:(wc !=0)=false:=sU qe
   rw[afa (λh=>h qe)]at hM
   simp[go_sem,aa,al]
   refine(A4 st.order.isEmpty).elim (λw3=> ?_) (λw3=> ?_)
   .rw[afb w3]at hM
    simp[go_sem,w3]
    exact ef hM
   rw[afa (by rw[w3];decide)]at hM
   simp[go_sem,w3]
   refine zM af cB (zN sg rfl) rfl ?_
   by_cases qc:cy T st.order<0
   .have ad:decide (cy T st.order<0)=true:=afd qc
    rw[afb qc]at hM
    simp[go_sem,ad]
    exact ef hM
   have ad:decide (cy T st.order<0)=false:=afc qc
   rw[afa qc]at hM
   simp[go_sem,ad]
   refine(A4 wh).elim (λw4=> ?_) (λw4=> ?_)
   .rw[afb w4]at hM
    simp[go_sem,w4]
    exact ef hM
   .rw[afa (by rw[w4];decide)]at hM
    simp[go_sem,w4]
    exact ef hM
theorem Sc (x:Int):Pure prog 188 [.int .i64 x] (.bool false):=by
 refine iW 0 func188 ntmps188 results188 λc hc hb=>zL ?_
 simp[go_sem]
 exact wR
def gN (x y:Int):Int:=if x<y then -1 else if x>y then 1 else 0
theorem Sd (x y:Int):Pure prog 119 [.int .i64 x,.int .i64 y] (.int .i64 (gN x y)):=by
 generalize hM:gN x y=M
 have ret: ∀(r:Int) (U:St),r=M->cj (some (.int .i64 r)) 0 (λr s=>r= .int .i64 M/\s= []) U:=λr U h=>by subst h;exact wR
 unfold gN at hM
 refine iW 0 func119 ntmps119 results119 λc hc hb=>zL ?_
 simp[go_sem]
 refine pC (Sc x) ?_
 simp[go_sem]
 refine pC (Sc y) ?_
 simp[go_sem]
 repeat' (first|(refine zS (λq=> ?_) (λq=> ?_)<;>simp[go_sem,q]))
 all_goals exact ret _ _ (by rw[<-hM];simp only[afe,afi]at*;(repeat' split)<;>omega)
end Go.Proofs.YtefbicjgbaaieaaGreat
namespace Go.Proofs.YtefbicjgbaaieaaGreat
open Go Go.Vx Go.Proofs.Tryz
set_option maxRecDepth 100000
end Go.Proofs.YtefbicjgbaaieaaGreat
namespace Go.Proofs.YtefbicjgbaaieaaGreat
open Go Go.Vx Go.Proofs.Tryz
set_option maxRecDepth 100000
set_option maxHeartbeats 1000000
end Go.Proofs.YtefbicjgbaaieaaGreat
namespace Go.Proofs.YtefbicjgbaaieaaGreat
open Go Go.Vx R Go.Proofs.Tryz
set_option maxRecDepth 100000
section
variable {b:List V} {rows:List (List V)} {A:afF} {τ:St}
end
variable {U:St}{a:Int}
theorem yo (id off s:Nat) (cells:List V) {P:Program} {c:Ctx} {nt:Nat} {e:Env} {Q:QT} {y:Code} (h0:0<s) (cv:U[id]? =some (.box cells)) (hc:cells[off]? =some (.sl .full []))
  (hy:fw P c nt y Q fx fx e (U.set id (.box (cells.set off (.cJ U.length s 0 0 0)))++ [.cc [] s])):fw P c nt y Q fx fx e U:=by
 intro a w L I hs
 obtain⟨x,h1,h2⟩:=Pc hs.mem h0 cv hc
 exact hy a w L (I++ [x]) ⟨h1,hs.size,hs.defs,λk=>(hs.env k).mono (Le.refl _ _) h2⟩
def iR (name:afE):Int:=jz (λT:bI=>T.name==name) bM 0
theorem MY: ∀(n:Nat) (q l:List bH),(rZ n q l).length<=l.length+n
 |0,_,_=>A3 _
 |n+1,[],l=>by grind[rZ]
 |n+1,e::q,l=>by
  rw[rZ]
  split
  .have:=MY n (q++e.args) l;omega
  .have:=MY n q (l++ [e]);simp at this;omega
theorem Se (st:bQ):(nv st).length<=4096:=by
 grind[nv,MY]
theorem Sf (name:afE):iR name= -1\/iR name=0\/iR name=1\/iR name=2:=by
 have h:=BZ (λT:bI=>T.name==name) bM 0
 have hl:bM.length=3:=rfl
 grind[iR]
theorem yx6 (t:Int) (st:bQ):(oh t st).length<=2:=by
 grind[oh,RO]
def MZ (st:bQ):Prop:= ∀e∈nv st,∀name s v,n5 e name=some (s,v)->v.ok
def mO:bI:=⟨[],[],0,0,0,⟨[],[],[],0,0,0⟩⟩
def ER:List eT->List bH->Int
 |c::cs,e::es=>if oi mO e c.kind≠0 then oi mO e c.kind else ER cs es
 |_,_=>0
def ET (T:bI) (r:List bH):Int:=if r.length≠T.bW.length then 9 else ER T.bW r
def EU (T:bI):List (List bH)->Int
 | []=>0
 |r::l=>if ET T r≠0 then ET T r else EU T l
theorem xW9 {ρ:Nat->Nat} {g1 g2 g3 g4:Tag}:cF ρ (.agg mO.row) (.agg [.str [],.sl g1 [],.int .i64 0,.int .i64 0,.int .i64 0,.sl g2 [],.sl g3 [],.sl g4 [],.int .i64 0,.int .i64 0,.int .i64 0]):=
 xx ⟨zU rfl,yX,zU rfl,zU rfl,zU rfl,yX,yX,yX,zU rfl,zU rfl,zU rfl,tV⟩
theorem ve {ρ:Nat->Nat} (e:bH):cF ρ (.agg e.row) (.agg [.int .i64 e.kind,.str e.s,.int .i64 e.v.kind,.int .i64 e.v.n,.str e.v.s,.sl .ro (e.args.map bH.row)]):=by rw[bH.bN];exact zC rfl
theorem oo (T:bI) (st:bQ) (n:Nat):([.box T.row,.box st.row]:St).all (bP n)=true:=by simp[bP,cK,cG,bI.row,bQ.row]
theorem xl4 (T:bI) (_hT:T.bW.length<=1000) (st:bQ) (hs:kg st):Pure prog 142 [.agg T.row,.agg st.row] (.int .i64 (EU T st.rows)):=by
 obtain⟨R,hR⟩:=eX st.rows
 obtain⟨ai,ag⟩:=hs.rows
 rw[hR]at ai ag
 rw[hR]
 generalize hM:EU T R=M
 refine iV 0 func142 ntmps142 results142 λc hc hb=> ?_
 refine zA ?_
 simp[go_sem,hR]
 refine zH (S:=Nat) [2,3,11,12,13] (λi=> [.ptr 0 0,.ptr 1 0,.sl .ro (R.map λr=> [V.sl .ro (r.map bH.row)]),.int .i64 R.length,.int .i64 (i:Int)]) (λ_=> [.box T.row,.box st.row]) (λi=>R.length - i)
  (λi=>i<=R.length/\EU T (R.drop i)=M) hc hb 0 ⟨A5 _,hM⟩ ?_ ?_
 .exact ca 2 (by simp[go_sem,hR]) rfl (oo T st 2) (A5 _) (zD sg rfl)
 rintro i ⟨hi,hinv⟩
 by_cases q:i<R.length
 rotate_left
 .rw[A8 om]at hinv
  refine zA ?_
  simp[go_sem,q]
  exact ef hinv
 have ei:=zR q om
 obtain⟨r,hr⟩:=eX (R[i])
 obtain⟨ak,aj⟩:=ag r (hr▸Aa q)
 rw[A2 q,hr,EU]at hinv
 by_cases q2:r.length=T.bW.length
 rotate_left
 .have ad:((r.length:Int) !=T.bW.length)=true:=by simp;omega
  have ae:ET T r=9:=by unfold ET;rw[afb q2]
  rw[ae,afb dc]at hinv
  refine zA ?_
  simp[go_sem,q,hr,ad]
  exact ef hinv
 have ad:((r.length:Int) !=T.bW.length)=false:=by simp;omega
 have ae:ET T r=ER T.bW r:=by unfold ET;rw[afa (λh=>h q2)]
 rw[ae]at hinv
 obtain⟨C,hC⟩:=eX (ER T.bW r)
 rw[hC]at hinv
 refine zA ?_
 simp[go_sem,q,hr,ad]
 refine zH (S:=Nat) [2,3,11,12,13,23,24,25] (λk=> [.ptr 0 0,.ptr 1 0,.sl .ro (R.map λr=> [V.sl .ro (r.map bH.row)]),.int .i64 R.length,.int .i64 (i:Int),.sl .ro (r.map bH.row),.int .i64 r.length,.int .i64 (k:Int)]) (λ_=> [.box T.row,.box st.row]) (λk=>r.length - k)
  (λk=>k<=r.length/\ER (T.bW.drop k) (r.drop k)=C) hc hb 0 ⟨A5 _,hC⟩ ?_ ?_
 .exact ca 2 (by simp[go_sem,hR]) rfl (oo T st 2) (A5 _) (zD sg rfl)
 rintro k ⟨hk,aa⟩
 by_cases qk:k<r.length
 rotate_left
 .rw[A8 om,A8 om]at aa
  have aa:C=0:=aa.symm
  rw[afa (λh=>h aa)]at hinv
  refine zA ?_
  simp[go_sem,qk,ei]
  exact zG (i+1) ⟨om,⟨om,hinv⟩,aN 2 (oo T st 2)⟩
 have ek:=zR qk om
 have qc:k<T.bW.length:=om
 obtain⟨e,he⟩:=eX (r[k])
 obtain⟨c1,ah⟩:=eX (T.bW[k])
 have hE:=aj e (he▸Aa qk)
 rw[A2 qk,A2 qc,he,ah,ER]at aa
 have ab:=JB mO dc e hE c1.kind
 generalize oi mO e c1.kind=kc at ab aa
 refine zA ?_
 simp[go_sem,qk,he]
 refine nR [(8,0)] 3 sm kR kR ?_
 simp[go_sem,qc,ah]
 refine qo ab cB (λ_=>⟨xW9,ve e,zC rfl,tV⟩) rfl ?_
 simp[go_sem]
 by_cases qe:kc=0
 .have af:(kc !=0)=false:=sU qe
  rw[afa (λh=>h qe)]at aa
  simp[go_sem,af,ek]
  exact zG (k+1) ⟨om,⟨om,aa⟩,aN 2 (oo T st 2)⟩
 .have af:(kc !=0)=true:=sU qe
  rw[afb qe]at aa
  rw[afb (by rw[<-aa];exact qe)]at hinv
  simp[go_sem,af]
  exact ef (aa.trans hinv)
def nw (T:bI):List bY->List bY->Int
 |_,[]=>0
 |p,x::l=>
  if cy T x.name<0 then 14
  else if cy T x.name=T.key\/(cy T x.name=0/\T.place=0)then 18
  else if(p.any λy=>y.name==x.name)=true then 9
  else if oi T x.e (km T (cy T x.name))≠0 then oi T x.e (km T (cy T x.name))
  else nw T (p++ [x]) l
theorem mP (x:bY):bP 0 (.box x.row)=true:=by simp[bP,cK,cG,bY.row]
theorem yX3 (x y:bY):bK prog 219 [.agg y.row,.ptr 0 0] [.box x.row] (λr U=>r= .bool (y.name==x.name)/\U= [.box x.row]):=by
 refine iW 1 func219 ntmps219 results219 λc hc hb=>zL ?_
 simp[go_sem]
 exact xM 1 rfl rfl (by simp[bP,cK,cG]) (A3 _) (zC rfl) ⟨rfl,rfl⟩
theorem xY7 (x:bY) (l:List bY) (hl:l.length<=12):bK prog 278 [.sl .ro (l.map bY.row),.fn 219 [.ptr 0 0]] [.box x.row] (λr U=>r= .int .i64 (kn (λy=>y.name==x.name) l 0)/\U= [.box x.row]):=by
 generalize hM:kn (λy:bY=>y.name==x.name) l 0=M
 have ret: ∀(r:Int) (U:St),r=M->cj (some (.int .i64 r)) 1 (λr s=>r= .int .i64 M/\s= [.box x.row]) (.box x.row::U):=λr U h=>by subst h;exact xM 1 rfl rfl (by simp[bP,cK,cG,bY.row]) (A3 _) (zC rfl) ⟨rfl,rfl⟩
 refine iV 1 func278 ntmps278 results278 λc hc hb=> ?_
 refine zA ?_
 simp[go_sem]
 refine zH (S:=Nat) [0,1,6,7,8] (λi=> [.sl .ro (l.map bY.row),.fn 219 [.ptr 0 0],.sl .ro (l.map bY.row),.int .i64 l.length,.int .i64 (i:Int)]) (λ_=> [.box x.row]) (λi=>l.length - i)
  (λi=>i<=l.length/\kn (λy=>y.name==x.name) (l.drop i) i=M) hc hb 0 ⟨A5 _,hM⟩ ?_ ?_
 .exact aN 1 (by simp[bP,cK,cG,bY.row])
 rintro i ⟨hi,hinv⟩
 by_cases q:i<l.length
 rotate_left
 .rw[A8 om]at hinv
  refine zA ?_
  simp[go_sem,q]
  exact ret _ _ hinv
 have ei:=zR q om
 obtain⟨y,hy⟩:=eX (l[i])
 rw[A2 q,hy,kn]at hinv
 have aa:=yX3 x y
 generalize (y.name==x.name)=b at aa hinv
 refine zA ?_
 simp[go_sem,q,hy]
 refine lF 0 aa cB rfl (mP x) ⟨zC rfl,.inl rfl,tV⟩ (λr U h=>⟨_,h.2,mP x⟩) ?_
 rintro r o2 ⟨rfl,h2⟩
 obtain rfl:o2= .box x.row:=sU h2
 refine(A4 b).elim (λp=> ?_) (λp=> ?_)
 .rw[afb p]at hinv
  simp[go_sem,p]
  exact ret _ _ hinv
 .rw[afa (by rw[p];decide)]at hinv
  simp[go_sem,p,ei]
  exact zG (i+1) ⟨om,⟨om,hinv⟩,aN 1 (by simp[bP,cK,cG])⟩
theorem xY2 (x:bY) (l:List bY) (hl:l.length<=12):bK prog 218 [.sl .ro (l.map bY.row),.fn 219 [.ptr 0 0]] [.box x.row] (λr U=>r= .bool (l.any λy=>y.name==x.name)/\U= [.box x.row]):=by
 have h:=xY7 x l hl
 have hg:=GS (λy:bY=>y.name==x.name) l 0
 rw[<-hg]
 generalize kn (λy:bY=>y.name==x.name) l 0=n at h⊢
 refine iW 1 func218 ntmps218 results218 λc hc hb=>zL ?_
 simp[go_sem]
 refine lF 0 h cB rfl (mP x) ⟨zC rfl,.inl (by simp[dy,dL,dv,du,cz]),tV⟩ (λr U h=>⟨_,h.2,mP x⟩) ?_
 rintro r o2 ⟨rfl,h2⟩
 obtain rfl:o2= .box x.row:=sU h2
 simp[go_sem]
 exact xM 1 rfl rfl (by simp[bP,cK,cG]) (A3 _) (zC rfl) ⟨rfl,rfl⟩
theorem xQ8 (T:bI) (hT:T.bW.length<=1000) (st:bQ) (hs:kg st):Pure prog 143 [.agg T.row,.agg st.row] (.int .i64 (nw T [] st.cu)):=by
 obtain⟨L,hL⟩:=eX st.cu
 obtain⟨al,ak⟩:=hs.cu
 rw[hL]at al ak
 rw[hL]
 generalize hM:nw T [] L=M
 refine iV 0 func143 ntmps143 results143 λc hc hb=> ?_
 refine zA ?_
 simp[go_sem,hL]
 refine zH (S:=Nat) [2,3,10,11,12] (λi=> [.ptr 0 0,.ptr 1 0,.sl .ro (L.map bY.row),.int .i64 L.length,.int .i64 (i:Int)]) (λ_=> [.box T.row,.box st.row]) (λi=>L.length - i)
  (λi=>i<=L.length/\nw T (L.take i) (L.drop i)=M) hc hb 0 ⟨A5 _,hM⟩ ?_ ?_
 .exact ca 2 (by simp[go_sem,hL]) rfl (oo T st 2) (A5 _) (zD sg rfl)
 rintro i ⟨hi,hinv⟩
 by_cases q:i<L.length
 rotate_left
 .rw[A8 om,nw]at hinv
  refine zA ?_
  simp[go_sem,q]
  exact ef hinv
 have ei:=zR q om
 obtain⟨x,hx⟩:=eX (L[i])
 obtain⟨aq,hE⟩:=ak x (hx▸Aa q)
 have aa:=EN T x.name (by unfold maxLen;omega)
 rw[show jz (λc:eT=>c.name==x.name) T.bW 0=cy T x.name from rfl]at aa
 have ag:=xY2 x (L.take i) (by simp;omega)
 have an:L.take (i+1)=L.take i++ [x]:=by rw[Cp,A0 q,hx];rfl
 rw[A2 q,hx,nw,<-an]at hinv
 generalize ((L.take i).any λy=>y.name==x.name)=b at ag hinv
 by_cases qc:cy T x.name<0
 .have ae:decide (cy T x.name<0)=true:=afd qc
  rw[afb qc]at hinv
  refine zA ?_
  simp[go_sem,q,hx]
  refine zM aa cB (zN sg rfl) rfl ?_
  simp[go_sem,ae]
  exact ef hinv
 have ae:decide (cy T x.name<0)=false:=afc qc
 rw[afa qc]at hinv
 obtain⟨j,hj,ai⟩:=Jw T x.name qc
 obtain⟨C,hC⟩:=eX (T.bW[j])
 have ao:km T (cy T x.name)=C.kind:=by
  unfold km
  rw[hj,Ax,A0 ai,hC];rfl
 rw[ao]at hinv
 have ab:=JB T (by unfold maxLen;omega) x.e hE C.kind
 generalize oi T x.e C.kind=kc at ab hinv
 rw[hj]at aa hinv ae
 by_cases qk:(j:Int)=T.key\/((j:Int)=0/\T.place=0)
 .rw[afb qk]at hinv
  refine zA ?_
  simp[go_sem,q,hx]
  refine zM aa cB (zN sg rfl) rfl ?_
  simp[go_sem,ae]
  by_cases k1:(j:Int)=T.key
  .have af:((j:Int)==T.key)=true:=sU k1
   simp[go_sem,af]
   exact ef hinv
  .have af:((j:Int)==T.key)=false:=sU k1
   obtain⟨k2,k3⟩:=qk.resolve_left k1
   have ah:((j:Int)==0)=true:=sU k2
   have aj:(T.place==0)=true:=sU k3
   simp[go_sem,af,ah,aj]
   exact ef hinv
 rw[afa qk]at hinv
 have af:((j:Int)==T.key)=false:=by simpa using λh=>qk (.inl h)
 have key:((j:Int)==0)=false\/(((j:Int)==0)=true/\(T.place==0)=false):=by
  by_cases k2:(j:Int)=0
  .exact .inr ⟨by simpa using k2,by simpa using λh=>qk (.inr ⟨k2,h⟩)⟩
  .exact .inl (sU k2)
 refine key.elim (λah=> ?_) (λ⟨ah,aj⟩=> ?_)
 .refine zA ?_
  simp[go_sem,q,hx]
  refine zM aa cB (zN sg rfl) rfl ?_
  simp[go_sem,ae,af,ah,hL]
  refine zI ⟨hi,AT λ_=>rfl⟩ ?_
  simp[go_sem,<-List.map_take]
  refine lF 2 ag cB rfl (mP x) ⟨zK,.inl (by simp[dy,dL,dv,du,cz]),tV⟩ (λr U h=>⟨_,h.2,mP x⟩) ?_
  rintro r o2 ⟨rfl,h2⟩
  obtain rfl:o2= .box x.row:=sU h2
  refine(A4 b).elim (λp=> ?_) (λp=> ?_)
  .rw[afb p]at hinv
   simp[go_sem,p]
   exact ef hinv
  rw[afa (by rw[p];decide)]at hinv
  simp[go_sem,p]
  refine nR [(9,0)] 3 sm kR kR ?_
  simp[go_sem,ai,hC]
  refine qo ab cB (λ_=>⟨zC rfl,ve x.e,zC rfl,tV⟩) rfl ?_
  simp[go_sem]
  by_cases qe:kc=0
  .have ad:(kc !=0)=false:=sU qe
   rw[afa (λh=>h qe)]at hinv
   simp[go_sem,ad,ei]
   exact zG (i+1) ⟨om,⟨om,hinv⟩,ca 2 (by simp[go_sem,hL]) rfl (oo T st 2) (A5 _) (zD sg rfl)⟩
  .have ad:(kc !=0)=true:=sU qe
   rw[afb qe]at hinv
   simp[go_sem,ad]
   exact ef hinv
 .refine zA ?_
  simp[go_sem,q,hx]
  refine zM aa cB (zN sg rfl) rfl ?_
  simp[go_sem,ae,af,ah,aj,hL]
  refine zI ⟨hi,AT λ_=>rfl⟩ ?_
  simp[go_sem,<-List.map_take]
  refine lF 2 ag cB rfl (mP x) ⟨zK,.inl (by simp[dy,dL,dv,du,cz]),tV⟩ (λr U h=>⟨_,h.2,mP x⟩) ?_
  rintro r o2 ⟨rfl,h2⟩
  obtain rfl:o2= .box x.row:=sU h2
  refine(A4 b).elim (λp=> ?_) (λp=> ?_)
  .rw[afb p]at hinv
   simp[go_sem,p]
   exact ef hinv
  rw[afa (by rw[p];decide)]at hinv
  simp[go_sem,p]
  refine nR [(9,0)] 3 sm kR kR ?_
  simp[go_sem,ai,hC]
  refine qo ab cB (λ_=>⟨zC rfl,ve x.e,zC rfl,tV⟩) rfl ?_
  simp[go_sem]
  by_cases qe:kc=0
  .have ad:(kc !=0)=false:=sU qe
   rw[afa (λh=>h qe)]at hinv
   simp[go_sem,ad,ei]
   exact zG (i+1) ⟨om,⟨om,hinv⟩,ca 2 (by simp[go_sem,hL]) rfl (oo T st 2) (A5 _) (zD sg rfl)⟩
  .have ad:(kc !=0)=true:=sU qe
   rw[afb qe]at hinv
   simp[go_sem,ad]
   exact ef hinv
def oq (st:bQ):Int:=
 match bM[(iR st.table).toNat]? with
 |none=>14
 |some T=>if iR st.table<0 then 14 else if st.kind=1 then JC T st else if st.kind=2 then EU T st.rows else if st.kind=3 then(if nw T [] st.cu≠0 then nw T [] st.cu else yn T st)else yn T st
theorem xu3 (st:bQ) (hs:kg st):Pure prog 85 [dS bM,.agg st.row] (.int .i64 (oq st)):=by
 have ad:=RP bM st.table dc
 rw[show jz (λt:bI=>t.name==st.table) bM 0=iR st.table from rfl]at ad
 generalize hM:oq st=M
 unfold oq at hM
 have al:=Sf st.table
 generalize iR st.table=t at ad al hM
 refine iW 0 func85 ntmps85 results85 λc hc hb=>zL ?_
 simp[go_sem,dS]
 refine zM ad cB (zN (by simp[go_sem,dS]) rfl) rfl ?_
 simp[go_sem]
 by_cases ah:t= -1
 .have hM:14=M:=by rw[<-hM,ah];rfl
  subst ah
  simp[go_sem]
  exact ef hM
 have ai: ¬t<0:=om
 have aj:decide (t<0)=false:=afc ai
 obtain⟨j,rfl⟩: ∃j:Nat,t=j:=⟨t.toNat,om⟩
 have ae:j<bM.length:=by show j<3;omega
 obtain⟨T,hT⟩:=eX (bM[j])
 have ak:T.bW.length<=1000:=by
  rw[<-hT]
  match j,ae with
  |0,_=>exact(by decide:vc.bW.length<=1000)
  |1,_=>exact(by decide:BW.bW.length<=1000)
  |2,_=>exact(by decide:BX.bW.length<=1000)
 simp only[Ax,A0 ae,hT]at hM
 rw[afa ai]at hM
 have h1:=xu6 T (by unfold maxLen;omega) st hs
 have h2:=xl4 T ak st hs
 have h3:=xQ8 T ak st hs
 have h4:=Sb T (by unfold maxLen;omega) st hs
 simp[go_sem,aj,ae,hT]
 by_cases k1:st.kind=1
 .have aa:(st.kind==1)=true:=sU k1
  rw[afb k1]at hM
  simp[go_sem,aa]
  refine zM h1 cB (zN sg rfl) rfl ?_
  simp[go_sem]
  exact ef hM
 have aa:(st.kind==1)=false:=sU k1
 rw[afa k1]at hM
 by_cases k2:st.kind=2
 .have ab:(st.kind==2)=true:=sU k2
  rw[afb k2]at hM
  simp[go_sem,aa,ab]
  refine zM h2 cB (zN sg rfl) rfl ?_
  simp[go_sem]
  exact ef hM
 have ab:(st.kind==2)=false:=sU k2
 rw[afa k2]at hM
 by_cases k3:st.kind=3
 .have af:(st.kind==3)=true:=sU k3
  rw[afb k3]at hM
  generalize nw T [] st.cu=sc at h3 hM
  simp[go_sem,aa,ab,af]
  refine zM h3 cB (zN sg rfl) rfl ?_
  by_cases qe:sc=0
  .have ag:(sc !=0)=false:=sU qe
   rw[afa (λh=>h qe)]at hM
   simp[go_sem,ag]
   refine zM h4 cB (zN sg rfl) rfl ?_
   simp[go_sem]
   exact ef hM
  .have ag:(sc !=0)=true:=sU qe
   rw[afb qe]at hM
   simp[go_sem,ag]
   exact ef hM
 have af:(st.kind==3)=false:=sU k3
 rw[afa k3]at hM
 simp[go_sem,aa,ab,af]
 refine zM h4 cB (zN sg rfl) rfl ?_
 simp[go_sem]
 exact ef hM
def nx (mode:Int):List bQ->Nat->Int×Int
 | [],_=>(0,0)
 |x::l,i=>if mode≠0/\x.kind≠1 then((i:Int),1)else if oq x≠0 then((i:Int),oq x)else nx mode l (i+1)
def kY (l:fj):Int×Int:=if kX l=true then nx l.mode l.stmts 0 else(0,9)
theorem yL3 (l:fj) (hl:nu l):Pure prog 40 [dS bM,.agg l.row] (wJ (kY l)):=by
 have ad:=xr2 l hl
 obtain⟨L,hL⟩:=eX l.stmts
 obtain⟨ag,af⟩:=hl.stmts
 rw[hL]at ag af
 obtain⟨m,hm⟩:=eX l.mode
 generalize hM:kY l=M
 unfold kY at hM
 rw[hL,hm]at hM
 generalize kX l=b at ad hM
 refine iV 0 func40 ntmps40 results40 λc hc hb=> ?_
 refine zA ?_
 simp[go_sem,dS]
 refine zM ad cB (zN sg rfl) rfl ?_
 refine(A4 b).elim (λp=> ?_) (λp=> ?_)
 rotate_left
 .rw[afa (by rw[p];decide)]at hM
  simp[go_sem,p]
  exact CA hM
 rw[afb p]at hM
 simp[go_sem,p,hL]
 refine zH (S:=Nat) [2,3,13,14,15] (λi=> [.ptr 0 0,.ptr 1 0,.sl .ro (L.map bQ.row),.int .i64 L.length,.int .i64 (i:Int)]) (λ_=> [.box [.sl .ro xZ,.sl .ro (bM.map bI.row)],.box l.row]) (λi=>L.length - i)
  (λi=>i<=L.length/\nx m (L.drop i) i=M) hc hb 0 ⟨A5 _,hM⟩ ?_ ?_
 .exact ca 2 (by simp[go_sem,hL]) rfl (by simp[bP,cK,cG,fj.row]) (A5 _) (zD sg rfl)
 rintro i ⟨hi,hinv⟩
 by_cases q:i<L.length
 rotate_left
 .rw[A8 om,nx]at hinv
  refine zA ?_
  simp[go_sem,q]
  exact CA hinv
 have ei:=zR q om
 obtain⟨st,ae⟩:=eX (L[i])
 have aa:=xu3 st (af st (ae▸Aa q))
 rw[A2 q,ae,nx]at hinv
 generalize oq st=ce at aa hinv
 refine zA ?_
 simp[go_sem,q,ae,hm]
 by_cases q1:m≠0/\st.kind≠1
 .rw[afb q1]at hinv
  have ah:(m !=0)=true:=sU q1.1
  have ai:(st.kind !=1)=true:=sU q1.2
  simp[go_sem,ah,ai]
  exact CA hinv
 rw[afa q1]at hinv
 have key:(m !=0)=false\/((m !=0)=true/\(st.kind !=1)=false):=by
  by_cases h:m=0
  .exact .inl (sU h)
  .refine .inr ⟨by simpa using h, ?_⟩
   simp only[bne_eq_false_iff_eq]
   exact Cz λg=>q1 ⟨h,g⟩
 refine key.elim (λa1=> ?_) (λ⟨a1,a2⟩=> ?_)
 .simp[go_sem,a1]
  refine zM aa cB (zN (by simp[go_sem,dS]) rfl) rfl ?_
  by_cases qe:ce=0
  .have ab:(ce !=0)=false:=sU qe
   rw[afa (λh=>h qe)]at hinv
   simp[go_sem,ab,ei]
   exact zG (i+1) ⟨om,⟨om,hinv⟩,ca 2 (by simp[go_sem,hL,hm]) rfl (by simp[bP,cK,cG]) (A5 _) (zD sg rfl)⟩
  .have ab:(ce !=0)=true:=sU qe
   rw[afb qe]at hinv
   simp[go_sem,ab]
   exact CA hinv
 .simp[go_sem,a1,a2]
  refine zM aa cB (zN (by simp[go_sem,dS]) rfl) rfl ?_
  by_cases qe:ce=0
  .have ab:(ce !=0)=false:=sU qe
   rw[afa (λh=>h qe)]at hinv
   simp[go_sem,ab,ei]
   exact zG (i+1) ⟨om,⟨om,hinv⟩,ca 2 (by simp[go_sem,hL,hm]) rfl (by simp[bP,cK,cG]) (A5 _) (zD sg rfl)⟩
  .have ab:(ce !=0)=true:=sU qe
   rw[afb qe]at hinv
   simp[go_sem,ab]
   exact CA hinv
abbrev fK (n:Int):Prop:= -9223372036854775808<=n/\n<=9223372036854775807
def eJ (n:Int):Int×Int:=if fK n then(n,0)else(0,5)
theorem tN {n:Int} (h:fK n):IntKind.i64.wrap n=n:=Vx.bR h.1 h.2
theorem M0 (a b:Int) (ha:fK a) (aa:fK b):Pure prog 291 [.int .i64 a,.int .i64 b] (wJ (eJ (a+b))):=by
 generalize hM:eJ (a+b)=M
 unfold eJ at hM
 have q:(0<b/\decide (0<b)=true/\decide (b<0)=false)\/(b<0/\decide (0<b)=false/\decide (b<0)=true)\/(b=0/\decide (0<b)=false/\decide (b<0)=false):=by
  simp only[afe,afi];omega
 unfold fK at ha aa hM
 refine iW 0 func291 ntmps291 results291 λc hc hb=>zL ?_
 rcases q with ⟨q,q1,q2⟩|⟨q,q1,q2⟩|⟨q,q1,q2⟩
 .have w1:IntKind.i64.wrap (9223372036854775807 - b)=9223372036854775807 - b:=tN ⟨om,om⟩
  by_cases r:9223372036854775807 - b<a
  .have r':decide (9223372036854775807 - b<a)=true:=afd r
   simp[go_sem,q1,w1,r']
   exact wV (by rw[<-hM,afa om])
  .have r':decide (9223372036854775807 - b<a)=false:=afc r
   have w2:IntKind.i64.wrap (a+b)=a+b:=tN ⟨om,om⟩
   simp[go_sem,q1,q2,w1,r',w2]
   exact wV (by rw[<-hM,afb om])
 .have w1:IntKind.i64.wrap (-9223372036854775808 - b)= -9223372036854775808 - b:=tN ⟨om,om⟩
  by_cases r:a< -9223372036854775808 - b
  .have r':decide (a< -9223372036854775808 - b)=true:=afd r
   simp[go_sem,q1,q2,w1,r']
   exact wV (by rw[<-hM,afa om])
  .have r':decide (a< -9223372036854775808 - b)=false:=afc r
   have w2:IntKind.i64.wrap (a+b)=a+b:=tN ⟨om,om⟩
   simp[go_sem,q1,q2,w1,r',w2]
   exact wV (by rw[<-hM,afb om])
 .have w2:IntKind.i64.wrap (a+b)=a+b:=tN ⟨om,om⟩
  simp[go_sem,q1,q2,w2]
  exact wV (by rw[<-hM,afb om])
theorem M1 (x:Nat) (hx:x<18446744073709551616):jv .and .u64 (x:Int) 4294967295=((x%4294967296:Nat):Int):=by
 unfold jv
 have h1:(BitVec.ofInt IntKind.u64.bits (x:Int)).toNat=x:=by
  rw[BitVec.toNat_ofInt]
  show((x:Int)%(18446744073709551616:Nat)).toNat=x
  omega
 have h2:(BitVec.ofInt IntKind.u64.bits 4294967295).toNat=4294967295:=dc
 simp only[BitVec.toNat_and,h1,h2]
 have h3:=Nat.and_two_pow_sub_one_eq_mod x 32
 have h4:(2:Nat)^32 - 1=4294967295:=dc
 have h5:(2:Nat)^32=4294967296:=dc
 rw[h4,h5]at h3
 rw[h3]
 exact Vx.dt om om
theorem GW (x:Nat):(x:Int).fdiv 4294967296=((x/4294967296:Nat):Int):=by
 rw[Int.fdiv_eq_ediv_of_nonneg _ dc]
 rfl
theorem wh4 (n:Nat):IntKind.u64.wrap (n:Int)=((n%18446744073709551616:Nat):Int):=by
 unfold IntKind.wrap
 simp[IntKind.bits,IntKind.signed]
theorem mQ {n:Nat} (h:n<18446744073709551616):IntKind.u64.wrap (n:Int)=(n:Int):=Vx.dt om om
theorem xo3 (a b c d:Nat) (ha:a<4294967296) (hb:b<4294967296) (hc:c<4294967296) (hd:d<4294967296):
  a*d<=18446744065119617025/\b*c<=18446744065119617025/\a*c<=18446744065119617025/\b*d<=18446744065119617025/\
  (a*4294967296+b)*(c*4294967296+d)=(a*c)*18446744073709551616+(a*d)*4294967296+(b*c)*4294967296+b*d:=by
 have m: ∀x y:Nat,x<4294967296->y<4294967296->x*y<=18446744065119617025:=λx y hx hy=>by
  have:=Nat.mul_le_mul (show x<=4294967295 by omega) (show y<=4294967295 by omega)
  simpa using this
 refine⟨m _ _ ha hd,m _ _ hb hc,m _ _ ha hc,m _ _ hb hd, ?_⟩
 rw[B0,Nat.mul_add,Nat.mul_add]
 have e1:a*4294967296*(c*4294967296)=(a*c)*18446744073709551616:=by
  rw[Nat.mul_mul_mul_comm]
 have e2:a*4294967296*d=(a*d)*4294967296:=by rw[Nat.mul_right_comm]
 have e3:b*(c*4294967296)=(b*c)*4294967296:=by rw[Nat.mul_assoc]
 rw[e1,e2,e3]
 omega
theorem vf (x y:Nat):(x:Int)*(y:Int)=((x*y:Nat):Int):=sm
theorem JD (x y:Nat):(x:Int)+(y:Int)=((x+y:Nat):Int):=sm
theorem xK0 (x y:Nat) (hx:x<18446744073709551616) (hy:y<18446744073709551616):Pure prog 360 [.int .u64 x,.int .u64 y] (.cm [.int .u64 ((x*y/18446744073709551616:Nat):Int),.int .u64 ((x*y%18446744073709551616:Nat):Int)]):=by
 obtain⟨m1,m2,m3,m4,m5⟩:=xo3 (x/4294967296) (x%4294967296) (y/4294967296) (y%4294967296) om om om om
 have ex:x/4294967296*4294967296+x%4294967296=x:=Nat.div_add_mod' x 4294967296
 have ey:y/4294967296*4294967296+y%4294967296=y:=Nat.div_add_mod' y 4294967296
 rw[ex,ey]at m5
 have a1:=M1 x hx
 have a2:=M1 y hy
 have a3:=GW x
 have a4:=GW y
 generalize aa:x/4294967296=x1 at*
 generalize ab:x%4294967296=x0 at*
 generalize ad:y/4294967296=y1 at*
 generalize ae:y%4294967296=y0 at*
 obtain⟨p,hp⟩: ∃p,p=x1*y1:=⟨_,rfl⟩
 obtain⟨q,hq⟩: ∃q,q=x1*y0:=⟨_,rfl⟩
 obtain⟨r,hr⟩: ∃r,r=x0*y1:=⟨_,rfl⟩
 obtain⟨s,hs⟩: ∃s,s=x0*y0:=⟨_,rfl⟩
 rw[<-hq]at m1 m5
 rw[<-hr]at m2 m5
 rw[<-hp]at m3 m5
 rw[<-hs]at m4 m5
 refine iW 0 func360 ntmps360 results360 λc hc hb=>zL ?_
 simp[go_sem,a1,a2,a3,a4]
 refine yL (zC rfl) ⟨?_,rfl⟩
 rw[vf x1 y1,<-hp,vf x1 y0,<-hq,vf x0 y1,<-hr,vf x0 y0,<-hs,mQ (n:=s) om,mQ (n:=p) om,mQ (n:=q) om,mQ (n:=r) om,GW s,
  JD,mQ (n:=q+s/4294967296) om,GW,M1 _ om,JD,JD,mQ (n:=p+(q+s/4294967296)/4294967296) om,mQ (n:=(q+s/4294967296)%4294967296+r) om,GW,JD,mQ om,vf,wh4]
 have e:p+(q+s/4294967296)/4294967296+((q+s/4294967296)%4294967296+r)/4294967296=x*y/18446744073709551616:=by
  rw[m5]
  omega
 rw[e]
 rfl
theorem xJ1 (h:a<0) (h2: -9223372036854775808<=a):IntKind.u64.wrap (-IntKind.u64.wrap a)=(a.natAbs:Int):=by
 have e:IntKind.u64.wrap a=a+18446744073709551616:=by
  unfold IntKind.wrap
  simp[IntKind.bits,IntKind.signed]
  omega
 rw[e]
 unfold IntKind.wrap
 simp[IntKind.bits,IntKind.signed]
 omega
theorem Sg (a:Int) (ha:fK a):Pure prog 361 [.int .i64 a] (.int .u64 (a.natAbs:Int)):=by
 unfold fK at ha
 refine iW 0 func361 ntmps361 results361 λc hc hb=>zL ?_
 simp[go_sem]
 by_cases q:a<0
 .have q1:decide (a<0)=true:=afd q
  simp[go_sem,q1]
  refine yL (zC rfl) ⟨?_,rfl⟩
  rw[xJ1 q ha.1]
 .have q1:decide (a<0)=false:=afc q
  simp[go_sem,q1]
  refine yL (zC rfl) ⟨?_,rfl⟩
  rw[Vx.dt om om]
  congr 1
  omega
def CB (a b:Int):Nat:=if decide (a<0)=decide (b<0)then 9223372036854775807 else 9223372036854775808
theorem xZ8 (a b:Int):fK (a*b)↔a.natAbs*b.natAbs<=CB a b:=by
 obtain⟨n,hn⟩:=Int.eq_nat_or_neg a
 obtain⟨m,hm⟩:=Int.eq_nat_or_neg b
 have e:a.natAbs=n/\b.natAbs=m:=⟨om,om⟩
 rw[e.1,e.2]
 have z1:n=0->n*m=0:=λh=>by subst h;exact Cu m
 have z2:m=0->n*m=0:=λh=>by subst h;exact Nat.mul_zero n
 unfold CB fK
 rcases hn with rfl|rfl<;>rcases hm with rfl|rfl
 .rw[vf,afc om,afc om,afb rfl]
  generalize n*m=p at*
  omega
 .rw[Int.mul_neg,vf]
  generalize n*m=p at*
  rw[afc om]
  by_cases q: -(m:Int)<0
  .rw[afd q,afa sm];omega
  .rw[afc q,afb rfl]
   have:=z2 om
   omega
 .rw[Int.neg_mul,vf]
  generalize n*m=p at*
  rw[afc (p:=(m:Int)<0) om]
  by_cases q: -(n:Int)<0
  .rw[afd q,afa sm];omega
  .rw[afc q,afb rfl]
   have:=z1 om
   omega
 .rw[Int.neg_mul_neg,vf]
  generalize n*m=p at*
  by_cases q: -(n:Int)<0<;>by_cases q2: -(m:Int)<0
  .rw[afd q,afd q2,afb rfl];omega
  .have:=z2 om
   rw[afd q,afc q2,afa sm];omega
  .have:=z1 om
   rw[afc q,afd q2,afa sm];omega
  .have:=z1 om
   rw[afc q,afc q2,afb rfl];omega
theorem xZ7 (a b:Int):((!(decide (a<0)==decide (b<0)))=true->CB a b=9223372036854775808)/\((!(decide (a<0)==decide (b<0)))=false->CB a b=9223372036854775807):=by
 unfold CB
 generalize decide (a<0)=x
 generalize decide (b<0)=y
 cases x<;>cases y<;>simp
theorem wd5 (a b:Int) (ha:fK a) (ab:fK b):Pure prog 349 [.int .i64 a,.int .i64 b] (wJ (eJ (a*b))):=by
 have af:=Sg a ha
 have ag:=Sg b ab
 have ad:a.natAbs<18446744073709551616/\b.natAbs<18446744073709551616:=by unfold fK at ha ab;omega
 have hm:=xK0 a.natAbs b.natAbs ad.1 ad.2
 have cH:=xZ8 a b
 have ah:CB a b<=9223372036854775808:=by unfold CB;split<;>omega
 have ae:=xZ7 a b
 generalize hP:a.natAbs*b.natAbs=p at*
 have ai:p/18446744073709551616*18446744073709551616+p%18446744073709551616=p:=Nat.div_add_mod' _ _
 have aj:p%18446744073709551616<18446744073709551616:=Cj _ dc
 generalize p/18446744073709551616=hi at*
 generalize p%18446744073709551616=lo at*
 generalize hM:eJ (a*b)=M
 unfold eJ at hM
 refine iW 0 func349 ntmps349 results349 λc hc hb=>zL ?_
 simp[go_sem]
 refine pC af ?_
 simp[go_sem]
 refine pC ag ?_
 simp[go_sem]
 refine pC hm ?_
 simp[go_sem]
 have u1:IntKind.u64.wrap 9223372036854775808=9223372036854775808:=dc
 refine zS (λv2=> ?_) (λv2=> ?_)
 .rw[ae.1 v2]at cH
  by_cases q:p<=9223372036854775808
  .have f1:decide (0<hi)=false:=afc om
   have f3:decide ((9223372036854775808:Int)<(lo:Int))=false:=afc om
   have w:=tN (cH.2 q)
   simp[go_sem,f1,f3,w,u1]
   exact wV (by rw[<-hM,afb (cH.2 q)])
  .have aa: ¬fK (a*b):=λh=>q (cH.1 h)
   have f4:decide (0<hi)=true\/(decide (0<hi)=false/\decide ((9223372036854775808:Int)<(lo:Int))=true):=by
    simp only[afe,afi];omega
   rcases f4 with f4|⟨f4,f5⟩
   .simp[go_sem,f4]
    exact wV (by rw[<-hM,afa aa])
   .simp[go_sem,f4,f5,u1]
    exact wV (by rw[<-hM,afa aa])
 .rw[ae.2 v2]at cH
  by_cases q:p<=9223372036854775807
  .have f1:decide (0<hi)=false:=afc om
   have f3:decide ((9223372036854775807:Int)<(lo:Int))=false:=afc om
   have w:=tN (cH.2 q)
   simp[go_sem,f1,f3,w]
   exact wV (by rw[<-hM,afb (cH.2 q)])
  .have aa: ¬fK (a*b):=λh=>q (cH.1 h)
   have f4:decide (0<hi)=true\/(decide (0<hi)=false/\decide ((9223372036854775807:Int)<(lo:Int))=true):=by
    simp only[afe,afi];omega
   rcases f4 with f4|⟨f4,f5⟩
   .simp[go_sem,f4]
    exact wV (by rw[<-hM,afa aa])
   .simp[go_sem,f4,f5]
    exact wV (by rw[<-hM,afa aa])
theorem M4 (a b:Int) (ha:fK a) (ab:fK b):Pure prog 317 [.int .i64 a,.int .i64 b] (wJ (eJ (a - b))):=by
 by_cases q:b= -9223372036854775808
 .generalize hM:eJ (a - b)=M
  unfold eJ at hM
  unfold fK at ha
  have q1:(b != -9223372036854775808)=false:=sU q
  refine iW 0 func317 ntmps317 results317 λc hc hb=>zL ?_
  simp[go_sem,q1]
  by_cases r:0<=a
  .have r1:decide (0<=a)=true:=afd r
   simp[go_sem,r1]
   exact wV (by rw[<-hM,afa om])
  .have r1:decide (0<=a)=false:=afc r
   have w:IntKind.i64.wrap (a - b)=a - b:=tN ⟨om,om⟩
   simp[go_sem,r1,w]
   exact wV (by rw[<-hM,afb (by unfold fK;omega)])
 .have hn:fK (-b):=by unfold fK at*;omega
  have w:IntKind.i64.wrap (-b)= -b:=tN hn
  have q1:(b != -9223372036854775808)=true:=sU q
  have aa:=M0 a (-b) ha hn
  have e:a+ -b=a - b:=om
  rw[e]at aa
  generalize eJ (a - b)=M at*
  refine iW 0 func317 ntmps317 results317 λc hc hb=>zL ?_
  simp[go_sem,q1,w]
  refine pC aa ?_
  simp[go_sem,wJ]
  exact wR
def yp (s:afE) (a b:Int):Int×Int:=
 if s= [43]then eJ (a+b)else if s= [45]then eJ (a - b)else if s= [42]then eJ (a*b)
 else if b=0 then(0,17)else if s= [37]then(a.tmod b,0)else eJ (a.tdiv b)
theorem xS0 {b:Int} (ha:fK a) (hb:fK b):fK (a.tmod b):=by
 unfold fK at*
 by_cases q:b=0
 .subst q;rw[Int.tmod_zero];exact ha
 .have h2:(a.tmod b).natAbs=a.natAbs%b.natAbs:=Int.natAbs_tmod a b
  have h3:a.natAbs%b.natAbs<=a.natAbs:=Nat.mod_le _ _
  have h4:(a.tmod b).natAbs<b.natAbs:=by
   rw[h2];exact Cj _ om
  omega
theorem xR9 {b:Int} (ha:fK a) (_hb:fK b) (h:b≠ -1):fK (a.tdiv b):=by
 unfold fK at*
 have h2:(a.tdiv b).natAbs=a.natAbs/b.natAbs:=Int.natAbs_tdiv a b
 by_cases q:b.natAbs<=1
 .have:b=0\/b=1:=om
  rcases this with rfl|rfl
  .rw[Int.tdiv_zero];omega
  .rw[Int.tdiv_one];exact ha
 .have h3:a.natAbs/b.natAbs<=a.natAbs/2:=Nat.div_le_div_left om om
  omega
theorem xE3 (s:afE) (a b:Int) (ha:fK a) (aa:fK b):Pure prog 319 [.str s,.int .i64 a,.int .i64 b] (wJ (yp s a b)):=by
 have c1:=M0 a b ha aa
 have c2:=M4 a b ha aa
 have c3:=wd5 a b ha aa
 have c4:=M4 0 a dc ha
 have e4:eJ (0 - a)=eJ (-a):=by congr 1;omega
 rw[e4]at c4
 have wr: ∀{x:Int×Int} {M:Int×Int} {U:St},x=M->cj (some (.cm [.int .i64 x.1,.int .i64 x.2])) 0 (λv s=>v=wJ M/\s= []) U:=λh=>wV h.symm
 generalize hM:yp s a b=M
 unfold yp at hM
 refine iW 0 func319 ntmps319 results319 λc hc hb=>zL ?_
 simp[go_sem]
 by_cases s1:s= [43]
 .simp only[s1,afb]at hM
  simp[go_sem,s1]
  refine pC c1 ?_
  simp[go_sem,wJ]
  exact wr hM
 by_cases s2:s= [45]
 .rw[afa s1,afb s2]at hM
  simp[go_sem,s2]
  refine pC c2 ?_
  simp[go_sem,wJ]
  exact wr hM
 by_cases s3:s= [42]
 .rw[afa s1,afa s2,afb s3]at hM
  simp[go_sem,s3]
  refine pC c3 ?_
  simp[go_sem,wJ]
  exact wr hM
 rw[afa s1,afa s2,afa s3]at hM
 have af:(s== [43])=false:=sU s1
 have ag:(s== [45])=false:=sU s2
 have ah:(s== [42])=false:=sU s3
 simp[go_sem,af,ag,ah]
 by_cases b0:b=0
 .rw[afb b0]at hM
  have ab:(b==0)=true:=sU b0
  simp[go_sem,ab]
  exact wV hM.symm
 rw[afa b0]at hM
 have ab:(b==0)=false:=sU b0
 simp[go_sem,ab]
 by_cases s4:s= [37]
 .rw[afb s4]at hM
  have ad:(s== [37])=true:=sU s4
  simp[go_sem,ad]
  refine zI b0 ?_
  simp[go_sem]
  exact wV hM.symm
 rw[afa s4]at hM
 have ad:(s== [37])=false:=sU s4
 simp[go_sem,ad]
 by_cases b1:b= -1
 .rw[b1,Int.tdiv_neg,Int.tdiv_one]at hM
  have ae:(b== -1)=true:=sU b1
  simp[go_sem,ae]
  refine pC c4 ?_
  simp[go_sem,wJ]
  exact wr hM
 have ae:(b== -1)=false:=sU b1
 have ok:=xR9 ha aa b1
 unfold eJ at hM
 rw[afb ok]at hM
 simp[go_sem,ae,tN ok]
 refine zI b0 ?_
 simp[go_sem]
 exact wV hM.symm
def iw (a b:afE):Int:=if Op.bytesLess a b=true then -1 else if Op.bytesLess b a=true then 1 else 0
theorem Sh: ∀a b:afE,Lib.compareBytes a b=iw a b
 | [],[]=>rfl
 | [],_::_=>rfl
 |_::_,[]=>rfl
 |x::a,y::b=>by
  have ih:=Sh a b
  rw[Lib.compareBytes]
  unfold iw at ih⊢
  rw[RB,RB]
  have h1:(x<y)↔x.toNat<y.toNat:=UInt8.lt_iff_toNat_lt
  have h2:(y<x)↔y.toNat<x.toNat:=UInt8.lt_iff_toNat_lt
  by_cases q:x<y
  .have:=h1.1 q
   rw[afb q,afb this]
   rfl
  by_cases q2:y<x
  .have:=h2.1 q2
   have n1: ¬x.toNat<y.toNat:=λh=>q (h1.2 h)
   rw[afa q,afb q2,afa n1,afb this,afb this]
   rfl
  .have n1:=λh=>q (h1.2 h)
   have n2:=λh=>q2 (h2.2 h)
   rw[afa q,afa q2,afa n1,afa n2,afa n2,afa n1]
   exact ih
theorem yD1 {a b:afE} {c:Ctx} {K:V->St->Prop} {e:Fx K} (hk:K (.int .i64 (iw a b)) U):iZ prog c (.fn 309 []) [.str a,.str b] U K e:=by
 refine⟨_,[],rfl,.inr λw L I aa hm ha=> ?_⟩
 match aa,ha with
 | [v1,v2],⟨h1,h2,_⟩=>
  rw[kI h1,kI h2]
  refine⟨.int .i64 (iw a b),.int .i64 (iw a b),w,L,U,I, ?_,hk,hm,Le.refl _ _,Ext.refl _ _,cq.int _ _⟩
  rw[run_callFunc_extern func309 kR kR kR (e:=Extern.BytealgCompare.compare) kR,Lib.run_compareString]
  rw[List.toList_toArray,List.toList_toArray,Sh]
  rfl
theorem xk4 (a b:afE):Pure prog 247 [.str a,.str b] (.int .i64 (iw a b)):=by
 refine iW 0 func247 ntmps247 results247 λc hc hb=>zL ?_
 simp[go_sem]
 refine yD1 ?_
 simp[go_sem]
 exact wR
theorem Si (a b:afE):Pure prog 164 [.str a,.str b] (.int .i64 (iw a b)):=by
 refine iW 0 func164 ntmps164 results164 λc hc hb=>zL ?_
 simp[go_sem]
 refine pC (xk4 a b) ?_
 simp[go_sem]
 exact wR
theorem Sj (x:Int):Pure prog 303 [.int .i64 x] (.bool false):=by
 refine iW 0 func303 ntmps303 results303 λc hc hb=>zL ?_
 simp[go_sem]
 exact wR
theorem yR3 (x y:Int):Pure prog 236 [.int .i64 x,.int .i64 y] (.int .i64 (gN x y)):=by
 generalize hM:gN x y=M
 have ret: ∀(r:Int) (U:St),r=M->cj (some (.int .i64 r)) 0 (λr s=>r= .int .i64 M/\s= []) U:=λr U h=>by subst h;exact wR
 unfold gN at hM
 refine iW 0 func236 ntmps236 results236 λc hc hb=>zL ?_
 simp[go_sem]
 refine pC (Sj x) ?_
 simp[go_sem]
 refine pC (Sj y) ?_
 simp[go_sem]
 repeat' (first|(refine zS (λq=> ?_) (λq=> ?_)<;>simp[go_sem,q]))
 all_goals exact ret _ _ (by rw[<-hM];simp only[afe,afi]at*;(repeat' split)<;>omega)
def su:afH->Int
 | []=>0
 |x::l=>if x=0 then su l else x
theorem GX (l:afH) (hl:l.length<=maxLen):Pure prog 163 [.sl .ro (l.map λn=> [V.int .i64 n])] (.int .i64 (su l)):=by
 generalize hM:su l=M
 have ret: ∀(r:Int) (U:St),r=M->cj (some (.int .i64 r)) 0 (λr s=>r= .int .i64 M/\s= []) U:=λr U h=>by subst h;exact wR
 refine iV 0 func163 ntmps163 results163 λc hc hb=> ?_
 refine zA ?_
 simp[go_sem]
 refine zH (S:=Nat) [3,6,7,8] (λi=> [.int .i64 0,.sl .ro (l.map λn=> [V.int .i64 n]),.int .i64 l.length,.int .i64 i]) (λ_=> []) (λi=>l.length - i) (λi=>i<=l.length/\su (l.drop i)=M) hc hb 0 ⟨A5 _,hM⟩ ?_ ?_
 .exact aO
 rintro i ⟨hi,hinv⟩
 by_cases q:i<l.length
 rotate_left
 .have e:l.drop i= []:=A8 om
  rw[e]at hinv
  refine zA ?_
  simp[go_sem,q]
  exact ret _ _ hinv
 have ei:=zR q (by unfold maxLen at hl;omega)
 obtain⟨r,hr⟩:=eX (l[i])
 rw[A2 q,su,hr]at hinv
 refine zA ?_
 simp[go_sem,q,hr]
 by_cases w1:r=0
 .rw[afb w1]at hinv
  have aa:(r !=0)=false:=by simp[w1]
  simp[go_sem,aa,ei]
  exact zG (i+1) ⟨om,⟨q,hinv⟩,aO⟩
 rw[afa w1]at hinv
 have aa:(r !=0)=true:=sU w1
 simp[go_sem,aa]
 exact ret _ _ hinv
def iS (a b:bG):Int:=su [gN a.kind b.kind,gN a.n b.n,iw a.s b.s]
theorem Sk (a b:bG):Pure prog 159 [.agg a.row,.agg b.row] (.int .i64 (iS a b)):=by
 have h:=GX [gN a.kind b.kind,gN a.n b.n,iw a.s b.s] (by simp[maxLen])
 have h1:=Sd a.kind b.kind
 have h2:=yR3 a.n b.n
 have h3:=Si a.s b.s
 unfold iS
 generalize su [gN a.kind b.kind,gN a.n b.n,iw a.s b.s]=M at*
 refine iW 0 func159 ntmps159 results159 λc hc hb=>zL ?_
 simp[go_sem]
 refine yV [(4,0),(9,0),(14,0),(16,0)] 2 rfl kR kR ?_
 simp[go_sem]
 refine pD h1 ?_
 simp[go_sem]
 refine pD h2 ?_
 simp[go_sem]
 refine pD h3 ?_
 simp[go_sem]
 refine pD h ?_
 simp[go_sem]
 exact wR
def eV (x:bG×Int):V:= .cm [.agg x.1.row,.int .i64 x.2]
def zeroV:bG:=⟨0,0,[]⟩
def vg (r:Int×Int):bG×Int:=if r.2=0 then(⟨2,r.1,[]⟩,0)else(zeroV,r.2)
theorem Sl {x:bG×Int} {k n e:Int} {s:afE} (h:x=(⟨k,n,s⟩,e)):cj (some (.cm [.agg [.int .i64 k,.int .i64 n,.str s],.int .i64 e])) 0 (λv s=>v=eV x/\s= []) U:=by
 subst h
 exact wR
theorem Sn (r:Int×Int):Pure prog 316 [.int .i64 r.1,.int .i64 r.2] (eV (vg r)):=by
 generalize hM:vg r=M
 unfold vg at hM
 refine iW 0 func316 ntmps316 results316 λc hc hb=>zL ?_
 simp[go_sem]
 by_cases q:r.2=0
 .rw[afb q]at hM
  have q1:(r.2 !=0)=false:=sU q
  simp[go_sem,q1]
  exact Sl hM.symm
 .rw[afa q]at hM
  have q1:(r.2 !=0)=true:=sU q
  simp[go_sem,q1]
  exact Sl hM.symm
def EV (s:afE) (c:Int):Bool:=
 if s= [61]then c==0 else if s= [60,62]then c !=0 else if s= [60]then decide (c<0)else if s= [60,61]then decide (c<=0)else if s= [62]then decide (0<c)else decide (0<=c)
theorem xN3 (s:afE) (x:Int):Pure prog 318 [.str s,.int .i64 x] (.bool (EV s x)):=by
 generalize hM:EV s x=M
 have ret: ∀(r:Bool) (U:St),r=M->cj (some (.bool r)) 0 (λr s=>r= .bool M/\s= []) U:=λr U h=>by subst h;exact wR
 unfold EV at hM
 refine iW 0 func318 ntmps318 results318 λc hc hb=>zL ?_
 simp[go_sem]
 repeat' (first|(refine zS (λq=> ?_) (λq=> ?_)<;>simp[go_sem,q]))
 all_goals exact ret _ _ (by rw[<-hM];simp only[afh,beq_eq_false_iff_ne,ne_eq]at*;simp_all)
def CC (v:bG):Bool:=v.kind==1&&(v.n==1&&v.s.isEmpty)
theorem Sp (v:bG):Pure prog 153 [.agg v.row] (.bool (CC v)):=by
 have h:=Ex true
 refine iW 0 func153 ntmps153 results153 λc hc hb=>zL ?_
 simp[go_sem]
 refine yV [(1,0)] 1 rfl kR kR ?_
 simp[go_sem]
 refine pD h ?_
 simp[go_sem,tg]
 exact wR
def qJ (vh:Int):List bG->Bool->bG
 | [],b=>if b=true then zeroV else tg (vh==0)
 |v::l,b=>if v.kind=0 then qJ vh l true else if v.n=vh then v else qJ vh l b
theorem Sq (l:List bG) (aa:Int) (hl:l.length<=maxLen):Pure prog 315 [.sl .ro (l.map bG.row),.int .i64 aa] (.agg (qJ aa l false).row):=by
 generalize hM:qJ aa l false=M
 have ret: ∀(v:bG) (U:St),v=M->cj (some (.agg v.row)) 0 (λr s=>r= .agg M.row/\s= []) U:=λv U h=>by subst h;exact wR
 refine iV 0 func315 ntmps315 results315 λc hc hb=> ?_
 refine zA ?_
 simp[go_sem]
 refine zH (S:=Nat×Bool) [1,4,5,8,9,10] (λu=> [.int .i64 aa,.ptr 0 0,.bool u.2,.sl .ro (l.map bG.row),.int .i64 l.length,.int .i64 u.1]) (λ_=> [.box [.int .i64 0,.int .i64 0,.str []]]) (λu=>l.length - u.1)
  (λu=>u.1<=l.length/\qJ aa (l.drop u.1) u.2=M) hc hb (0,false) ⟨A5 _,hM⟩ ?_ ?_
 .exact aN 1 (by simp[bP,cK,cG])
 rintro⟨i,b⟩ ⟨hi,hinv⟩
 simp only at hi hinv
 by_cases q:i<l.length
 rotate_left
 .have e:l.drop i= []:=A8 om
  rw[e,qJ]at hinv
  refine zA ?_
  simp[go_sem,q]
  by_cases w1:b=true
  .rw[afb w1]at hinv
   simp[go_sem,w1]
   exact ret zeroV _ hinv
  .rw[afa w1]at hinv
   have ab:b=false:=sU w1
   simp[go_sem,ab]
   refine pC (Ex (aa==0)) ?_
   simp[go_sem]
   exact ret _ _ hinv
 have ei:=zR q (by unfold maxLen at hl;omega)
 obtain⟨r,hr⟩:=eX (l[i])
 rw[A2 q,qJ,hr]at hinv
 refine zA ?_
 simp[go_sem,q,hr]
 refine pC (IT r) ?_
 simp[go_sem]
 by_cases w1:r.kind=0
 .rw[afb w1]at hinv
  have ab:(r.kind==0)=true:=sU w1
  simp[go_sem,ab,ei]
  exact zG (i+1,true) ⟨by simp only;omega,⟨q,hinv⟩,aN 1 (by simp[bP,cK,cG])⟩
 rw[afa w1]at hinv
 have ab:(r.kind==0)=false:=sU w1
 by_cases w2:r.n=aa
 .rw[afb w2]at hinv
  have ad:(r.n==aa)=true:=sU w2
  simp[go_sem,ab,ad]
  exact ret r _ hinv
 rw[afa w2]at hinv
 have ad:(r.n==aa)=false:=sU w2
 simp[go_sem,ab,ad,ei]
 exact zG (i+1,b) ⟨by simp only;omega,⟨q,hinv⟩,aN 1 (by simp[bP,cK,cG])⟩
def lU:List afE:= [[61],[60,62],[60],[60,61],[62],[62,61]]
def sv (s:afE) (l:List bG):bG×Int:=
 let x:=l.getD 0 zeroV
 let y:=l.getD 1 zeroV
 if s= [73,83,78,85,76,76]then(tg (x.kind==0),0)
 else if s= [78,79,84,78,85,76,76]then(tg (!(x.kind==0)),0)
 else if s= [65,78,68]then(qJ 0 l false,0)
 else if s= [79,82]then(qJ 1 l false,0)
 else if(l.any λv=>v.kind==0)=true then(zeroV,0)
 else if s= [78,79,84]then(tg (!CC x),0)
 else if s= [78,69,71]then vg (eJ (-x.n))
 else if lU.contains s=true then(tg (EV s (iS x y)),0)
 else vg (yp s x.n y.n)
theorem vi {x:bG×Int} {M:bG×Int} (h:x=M):cj (some (.cm [.agg x.1.row,.int .i64 x.2])) 0 (λv s=>v=eV M/\s= []) U:=by
 subst h
 exact wR
theorem xX6 (s:afE) (l:List bG) (h1:1<=l.length) (h2:l.length<=2) (hn: ∀v∈l,fK v.n) (hs:l.length=1->s= [73,83,78,85,76,76]\/s= [78,79,84,78,85,76,76]\/s= [78,79,84]\/s= [78,69,71]):
  Pure prog 254 [.str s,.sl .ro (l.map bG.row)] (eV (sv s l)):=by
 obtain⟨x,hx⟩:=eX (l[0]'h1)
 have ag:l.getD 0 zeroV=x:=by rw[A9,A0 h1,hx];rfl
 have an:l[0]? =some x:=by rw[A0 h1,hx]
 have aa:0<l.length:=h1
 have ad:fK x.n:=hn x (hx▸Aa h1)
 generalize hM:sv s l=M
 have ret: ∀(v:bG) (e:Int) (U:St),(v,e)=M->cj (some (.cm [.agg v.row,.int .i64 e])) 0 (λr s=>r=eV M/\s= []) U:=λv e U h=>vi h
 unfold sv at hM
 simp only[ag]at hM
 refine iV 0 func254 ntmps254 results254 λc hc hb=> ?_
 by_cases a1:s= [73,83,78,85,76,76]
 .rw[afb a1]at hM
  refine zA ?_
  simp[go_sem,a1,aa,hx]
  refine pC (IT x) ?_
  simp[go_sem]
  refine pC (Ex (x.kind==0)) ?_
  simp[go_sem]
  exact ret _ _ _ hM
 by_cases a2:s= [78,79,84,78,85,76,76]
 .rw[afa a1,afb a2]at hM
  refine zA ?_
  simp[go_sem,a2,aa,hx]
  refine pC (IT x) ?_
  simp[go_sem]
  refine pC (Ex (!(x.kind==0))) ?_
  simp[go_sem]
  exact ret _ _ _ hM
 by_cases a3:s= [65,78,68]
 .rw[afa a1,afa a2,afb a3]at hM
  refine zA ?_
  simp[go_sem,a3]
  refine pC (Sq l 0 (by unfold maxLen;omega)) ?_
  simp[go_sem]
  exact ret _ _ _ hM
 by_cases a4:s= [79,82]
 .rw[afa a1,afa a2,afa a3,afb a4]at hM
  refine zA ?_
  simp[go_sem,a4]
  refine pC (Sq l 1 (by unfold maxLen;omega)) ?_
  simp[go_sem]
  exact ret _ _ _ hM
 rw[afa a1,afa a2,afa a3,afa a4]at hM
 have b1:(s== [73,83,78,85,76,76])=false:=sU a1
 have b2:(s== [78,79,84,78,85,76,76])=false:=sU a2
 have b3:(s== [65,78,68])=false:=sU a3
 have b4:(s== [79,82])=false:=sU a4
 refine zA ?_
 simp[go_sem,b1,b2,b3,b4]
 refine zH (S:=Nat) [0,1,4,5,32,33,34] (λi=> [.str s,.sl .ro (l.map bG.row),.ptr 0 0,.int .i64 0,.sl .ro (l.map bG.row),.int .i64 l.length,.int .i64 i]) (λ_=> [.box [.int .i64 0,.int .i64 0,.str []]]) (λi=>l.length - i)
  (λi=>i<=l.length/\((l.drop i).any λv=>v.kind==0)=(l.any λv=>v.kind==0)) hc hb 0 ⟨A5 _,rfl⟩ ?_ ?_
 .exact aN 1 (by simp[bP,cK,cG])
 rintro i ⟨hi,hinv⟩
 by_cases q:i<l.length
 .have ei:=zR q om
  obtain⟨r,hr⟩:=eX (l[i])
  rw[A2 q,List.any_cons,hr]at hinv
  refine zA ?_
  simp[go_sem,q,hr]
  refine pC (IT r) ?_
  simp[go_sem]
  by_cases w1:r.kind=0
  .have ab:(r.kind==0)=true:=sU w1
   rw[ab,D5]at hinv
   rw[afb hinv.symm]at hM
   simp[go_sem,ab]
   exact ret zeroV 0 _ hM
  .have ab:(r.kind==0)=false:=sU w1
   rw[ab,Bj]at hinv
   simp[go_sem,ab,ei]
   exact zG (i+1) ⟨om,⟨q,hinv⟩,aN 1 (by simp[bP,cK,cG])⟩
 have e:l.drop i= []:=A8 om
 rw[e,List.any_nil]at hinv
 rw[afa (by rw[<-hinv];exact Bool.false_ne_true)]at hM
 by_cases a5:s= [78,79,84]
 .rw[afb a5]at hM
  refine zA ?_
  simp[go_sem,q,a5,aa,hx]
  refine pC (Sp x) ?_
  simp[go_sem]
  refine pC (Ex (!CC x)) ?_
  simp[go_sem]
  exact ret _ _ _ hM
 by_cases a6:s= [78,69,71]
 .rw[afa a5,afb a6]at hM
  refine zA ?_
  simp[go_sem,q,a6,aa,hx]
  refine pC (M4 0 x.n dc ad) ?_
  simp[go_sem,wJ]
  refine pC (Sn (eJ (-x.n))) ?_
  simp[go_sem,eV]
  exact vi hM
 rw[afa a5,afa a6]at hM
 have h3:1<l.length:=by
  by_cases q:1<l.length
  .exact q
  .rcases hs om with h|h|h|h
   .exact absurd h a1
   .exact absurd h a2
   .exact absurd h a5
   .exact absurd h a6
 obtain⟨y,hy⟩:=eX (l[1]'h3)
 have ah:l.getD 1 zeroV=y:=by rw[A9,A0 h3,hy];rfl
 have ai:fK y.n:=hn y (hy▸Aa h3)
 rw[ah]at hM
 have b5:(s== [78,79,84])=false:=sU a5
 have b6:(s== [78,69,71])=false:=sU a6
 have aj:=Sk x y
 have ae:=xN3 s (iS x y)
 have af:=Ex (EV s (iS x y))
 have ak:=xE3 s x.n y.n ad ai
 have al:=Sn (yp s x.n y.n)
 by_cases a7:lU.contains s=true
 .rw[afb a7]at hM
  have a8:s= [61]\/s= [60,62]\/s= [60]\/s= [60,61]\/s= [62]\/s= [62,61]:=by
   simpa[lU]using a7
  rcases a8 with a8|a8|a8|a8|a8|a8
  all_goals
   rw[a8]at ae af hM
   refine zA ?_
   simp[go_sem,q,a8]
   refine yV [(7,0),(8,0),(9,0)] 1 rfl kR kR ?_
   simp[go_sem,aa,hx,h3,hy]
   refine zI om ?_
   simp[go_sem]
   refine pD aj ?_
   simp[go_sem]
   refine pD ae ?_
   simp[go_sem]
   refine pD af ?_
   simp[go_sem]
   exact ret _ _ _ hM
 rw[afa a7]at hM
 have a8: ¬s= [61]/\ ¬s= [60,62]/\ ¬s= [60]/\ ¬s= [60,61]/\ ¬s= [62]/\ ¬s= [62,61]:=by
  simpa[lU]using a7
 have c1:(s== [61])=false:=sU a8.1
 have c2:(s== [60,62])=false:=sU a8.2.1
 have c3:(s== [60])=false:=sU a8.2.2.1
 have c4:(s== [60,61])=false:=sU a8.2.2.2.1
 have c5:(s== [62])=false:=sU a8.2.2.2.2.1
 have c6:(s== [62,61])=false:=sU a8.2.2.2.2.2
 refine zA ?_
 simp[go_sem,q,b5,b6,c1,c2,c3,c4,c5,c6]
 refine yV [(9,0),(12,0)] 1 rfl kR kR ?_
 simp[go_sem,aa,hx,h3,hy]
 refine zI om ?_
 simp[go_sem]
 refine pD ak ?_
 simp[go_sem,wJ]
 refine pD al ?_
 simp[go_sem,eV]
 exact vi hM
mutual
def mR (T:bI) (row:List bG):bH->bG×Int
 | .mk k s v args=>
  if k=1 then(v,0)else if k=2 then(row.getD (cy T s).toNat zeroV,0)
  else if(fH T row args).2≠0 then(zeroV,(fH T row args).2)else sv s (fH T row args).1
def fH (T:bI) (row:List bG):List bH->List bG×Int
 | []=>([],0)
 |e::l=>if(mR T row e).2≠0 then([],(mR T row e).2)else((mR T row e).1::(fH T row l).1,(fH T row l).2)
end
theorem Sr (T:bI) (row:List bG) (e:bH):mR T row e=
  if e.kind=1 then(e.v,0)else if e.kind=2 then(row.getD (cy T e.s).toNat zeroV,0)
  else if(fH T row e.args).2≠0 then(zeroV,(fH T row e.args).2)else sv e.s (fH T row e.args).1:=by cases e;rfl
structure VK (v:bG) (k:Int):Prop where
 may:dO v=true
 n:fK v.n
 kind:v.kind=k\/v.kind=0
theorem EW (k:Int):VK zeroV k:=⟨dc,dc,.inr rfl⟩
theorem JE (b:Bool):VK (tg b) 1:=by cases b<;>exact⟨dc,dc,.inl rfl⟩
theorem M5 (n:Int):fK (eJ n).1:=by
 grind[eJ]
theorem yW3 {s:afE} {a b:Int} (ha:fK a) (hb:fK b):fK (yp s a b).1:=by
 unfold yp
 repeat' split
 all_goals first|exact M5 _|exact xS0 ha hb|decide
theorem Ss {r:Int×Int} (h:fK r.1):VK (vg r).1 2:=by
 unfold vg
 split
 .exact⟨rfl,h,.inl rfl⟩
 grind[EW]
theorem JF (w:Int): ∀(l:List bG) (b:Bool),(∀v∈l,VK v 1)->VK (qJ w l b) 1
 | [],b,_=>by
  grind[qJ,EW,JE]
 |v::l,b,h=>by
  rw[qJ]
  split
  .exact JF w l true λx hx=>h x (B7 _ hx)
  .split
   .exact h v (B1 ..)
   .exact JF w l b λx hx=>h x (B7 _ hx)
theorem EX {m s:Bool} {k k':Int} (h:uP m s k=(k',0)):m=true/\s=true/\k'=k:=by
 unfold uP at h
 grind
inductive OpK (s:afE) (ks:afH) (k:Int):Prop
 |null (hs:s= [73,83,78,85,76,76]\/s= [78,79,84,78,85,76,76]) (hl:ks.length=1) (hk:k=1)
 |not (hs:s= [78,79,84]) (hl:ks.length=1) (ha:gL ks 1) (hk:k=1)
 |neg (hs:s= [78,69,71]) (hl:ks.length=1) (ha:gL ks 2) (hk:k=2)
 |both (hs:s= [79,82]\/s= [65,78,68]) (hl:ks.length=2) (ha:gL ks 1) (hk:k=1)
 |sum (hs:s= [43]\/s= [45]\/s= [42]\/s= [47]\/s= [37]) (hl:ks.length=2) (ha:gL ks 2) (hk:k=2)
 |cmp (hs:s= [61]\/s= [60,62]\/s= [60]\/s= [60,61]\/s= [62]\/s= [62,61]) (hl:ks.length=2) (hk:k=1)
theorem xD2 {s:afE} {ks:afH} {k:Int} (h:nU s ks=(k,0)):OpK s ks k:=by
 have one:((ks.length:Int)==1)=true->ks.length=1:=(by grind)
 have two:((ks.length:Int)==2)=true->ks.length=2:=(by grind)
 unfold nU at h
 split at h
 .obtain⟨h1,_,h3⟩:=EX h;exact .null om (one h1) h3
 split at h
 .obtain⟨h1,h2,h3⟩:=EX h;exact .not om (one h1) h2 h3
 split at h
 .obtain⟨h1,h2,h3⟩:=EX h;exact .neg om (one h1) h2 h3
 split at h
 .obtain⟨h1,h2,h3⟩:=EX h;exact .both om (two h1) h2 h3
 split at h
 .obtain⟨h1,h2,h3⟩:=EX h;exact .sum om (two h1) h2 h3
 split at h
 .obtain⟨h1,_,h3⟩:=EX h;exact .cmp om (two h1) h3
 grind
theorem Su {R:bG->Int->Prop}: ∀{l:List bG} {ks:afH},bL R l ks->l.length=ks.length
 | [],[],_=>rfl
 |_::_,_::_,⟨_,h⟩=>by rw[Ab,Ab,Su h]
theorem M6 {k:Int}: ∀{l:List bG} {ks:afH},bL VK l ks->gL ks k=true-> ∀v∈l,VK v k
 | [],[],_,_,v,hv=>by cases hv
 |x::l,y::ks,⟨h1,h2⟩,ha,v,hv=>by
  unfold gL at ha
  rw[Aq,A6,Bg,afh,afh]at ha
  rcases Ae.1 hv with rfl|hv
  .exact⟨h1.may,h1.n,by
    rcases h1.kind with q|q
    all_goals omega⟩
  .exact M6 h2 ha.2 v hv
theorem Sv {R:bG->Int->Prop} (hR: ∀v k,R v k->fK v.n): ∀{l:List bG} {ks:afH},bL R l ks-> ∀v∈l,fK v.n
 | [],[],_,v,hv=>by cases hv
 |x::l,y::ks,⟨h1,h2⟩,v,hv=>by
  rcases Ae.1 hv with rfl|hv
  .grind
  .exact Sv hR h2 v hv
theorem xk8 (l:List bG):sv [78,79,84] l=if(l.any λv=>v.kind==0)=true then(zeroV,0)else(tg (!CC (l.getD 0 zeroV)),0):=rfl
theorem xk7 (l:List bG):sv [78,69,71] l=if(l.any λv=>v.kind==0)=true then(zeroV,0)else vg (eJ (-(l.getD 0 zeroV).n)):=rfl
theorem xk6 {s:afE} (hs:s= [61]\/s= [60,62]\/s= [60]\/s= [60,61]\/s= [62]\/s= [62,61]) (l:List bG):
  sv s l=if(l.any λv=>v.kind==0)=true then(zeroV,0)else(tg (EV s (iS (l.getD 0 zeroV) (l.getD 1 zeroV))),0):=by
 rcases hs with rfl|rfl|rfl|rfl|rfl|rfl<;>rfl
theorem xk9 {s:afE} (hs:s= [43]\/s= [45]\/s= [42]\/s= [47]\/s= [37]) (l:List bG):
  sv s l=if(l.any λv=>v.kind==0)=true then(zeroV,0)else vg (yp s (l.getD 0 zeroV).n (l.getD 1 zeroV).n):=by
 rcases hs with rfl|rfl|rfl|rfl|rfl<;>rfl
theorem Sw {s:afE} {l:List bG} {ks:afH} {k:Int} (ho:nU s ks=(k,0)) (ha:bL VK l ks):
  VK (sv s l).1 k/\1<=l.length/\l.length<=2/\(∀v∈l,fK v.n)/\(l.length=1->s= [73,83,78,85,76,76]\/s= [78,79,84,78,85,76,76]\/s= [78,79,84]\/s= [78,69,71]):=by
 have hlen:=Su ha
 have hn:=Sv (λ_ _ h=>VK.n h) ha
 have hx: ∀j,fK (l.getD j zeroV).n:=λj=>by
  rw[A9]
  cases hj:l[j]? with
  |none=>decide
  |some v=>grind
 have ab: ∀n:Int,fK (eJ n).1:=M5
 cases xD2 ho with
 |null hs hl hk=>
  subst hk
  refine⟨?_,om,om,hn,(by grind)⟩
  rcases hs with rfl|rfl<;>exact JE _
 |not hs hl aa hk=>
  grind[xk8,EW,JE]
 |neg hs hl aa hk=>
  grind[xk7,EW,Ss]
 |both hs hl aa hk=>
  subst hk
  refine⟨?_,om,om,hn,om⟩
  rcases hs with rfl|rfl
  .exact JF 1 l false (M6 ha aa)
  .exact JF 0 l false (M6 ha aa)
 |sum hs hl aa hk=>
  grind[xk9,EW,Ss,yW3]
 |cmp hs hl hk=>
  grind[xk6,EW,JE]
structure mS (T:bI) (row:List bG):Prop where
 len:row.length=T.bW.length
 cell: ∀(j:Nat) (C:eT) (v:bG),T.bW[j]? =some C->row[j]? =some v->VK v C.kind
theorem JG {T:bI} {row:List bG} (hr:mS T row): ∀(n:Nat) (e:bH),gF e<=n->Good e->(kW T e).2=0->(mR T row e).2=0->VK (mR T row e).1 (kW T e).1
 |0,e,h,_,_,_=>by grind[Jk]
 |n+1,e,h,hg,hk,he=>by
  have ih:=JG hr n
  have ad:=tm e
  rw[Sr]at he⊢
  rw[MU]at hk⊢
  by_cases q1:e.kind=1
  .rw[afb q1]at hk⊢
   rw[afb q1]
   by_cases w:e.s.isEmpty=false\/e.args.isEmpty=false\/dO e.v=false
   .grind
   .rw[afa w]
    refine⟨by grind,⟨hg.v.n.1,hg.v.n.2⟩,.inl rfl⟩
  rw[afa q1]at hk he⊢
  rw[afa q1]
  by_cases q2:e.kind=2
  .rw[afb q2]at hk⊢
   rw[afb q2]
   by_cases w:cy T e.s<0
   .grind
   rw[afa w]at hk⊢
   by_cases w2:e.args.isEmpty=false\/mM e.v=false
   .grind
   rw[afa w2]
   obtain⟨j,hj,aa⟩:=Jw T e.s w
   have ab:j<row.length:=by rw[hr.len];omega
   simp only
   rw[hj,Ax,A9,A0 ab]
   unfold km
   rw[Ax,A0 aa]
   exact hr.cell j _ _ sm sm
  rw[afa q2]at hk he⊢
  rw[afa q2]
  by_cases q3:e.kind=3
  rotate_left
  .grind
  rw[afb q3]at hk⊢
  have ae:=hg.sub
  have list: ∀args:List bH,(∀x∈args,x∈e.args)->(wQ T args).2=0->(fH T row args).2=0->bL VK (fH T row args).1 (wQ T args).1:=by
   intro args
   induction args with
   |nil=>intro _ _ _;trivial
   |cons x l af=>
    intro hm hk he
    rw[wQ]at hk⊢
    rw[fH]at he⊢
    by_cases w1:(kW T x).2=0
    rotate_left
    .grind
    by_cases w2:(mR T row x).2=0
    rotate_left
    .grind
    have n1: ¬(kW T x).2≠0:=om
    have n2: ¬(mR T row x).2≠0:=om
    rw[afa n1]at hk⊢
    rw[afa n2]at he⊢
    have hx:=hm x (B1 ..)
    have ag:=BJ e.args x hx
    exact⟨(by grind),(by grind)⟩
  by_cases w1:(wQ T e.args).2=0
  rotate_left
  .grind
  by_cases w2:(fH T row e.args).2=0
  rotate_left
  .grind
  have n1: ¬(wQ T e.args).2≠0:=om
  have n2: ¬(fH T row e.args).2≠0:=om
  rw[afa n1]at hk⊢
  rw[afa n2]at he⊢
  by_cases w3:mM e.v=false
  .grind
  rw[afa w3]at hk⊢
  exact(Sw (Prod.ext rfl hk) (by grind)).1
end Go.Proofs.YtefbicjgbaaieaaGreat
