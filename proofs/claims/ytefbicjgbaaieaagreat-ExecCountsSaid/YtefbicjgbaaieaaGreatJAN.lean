/-
  Rows whose cells turn: they stay rows; used by the walk of exec's update.
  Conditions: as each theorem states them.
-/
import Derived.Test.YtefbicjgbaaieaaGreatJAM
import Derived.Lib.Bytealg
import Derived.Test.YtefbicjgbaaieaaGreatJAK
import Derived.Test.YtefbicjgbaaieaaGreatJAJ
import Derived.Test.YtefbicjgbaaieaaGreatJAF
set_option maxHeartbeats 8000000
namespace Go.Proofs.YtefbicjgbaaieaaGreat
open Go Go.Vx R Go.Proofs.Tryz
set_option maxRecDepth 100000
def cmpS (a b:List UInt8):Int:=if Op.bytesLess a b=true then -1 else if Op.bytesLess b a=true then 1 else 0
theorem xb0: ∀a b:List UInt8,Lib.compareBytes a b=cmpS a b
 | [],[]=>rfl
 | [],_::_=>rfl
 |_::_,[]=>rfl
 |x::a,y::b=>by
  have ih:=xb0 a b
  rw[Lib.compareBytes]
  unfold cmpS at ih⊢
  rw[xa7,xa7]
  have h1:(x<y)↔x.toNat<y.toNat:=UInt8.lt_iff_toNat_lt
  have h2:(y<x)↔y.toNat<x.toNat:=UInt8.lt_iff_toNat_lt
  by_cases q:x<y
  .have:=h1.1 q
   rw[if_pos q,if_pos this]
   rfl
  by_cases q2:y<x
  .have:=h2.1 q2
   have n1: ¬x.toNat<y.toNat:=fun h=>q (h1.2 h)
   rw[if_neg q,if_pos q2,if_neg n1,if_pos this,if_pos this]
   rfl
  .have n1:=fun h=>q (h1.2 h)
   have n2:=fun h=>q2 (h2.2 h)
   rw[if_neg q,if_neg q2,if_neg n1,if_neg n2,if_neg n2,if_neg n1]
   exact ih
theorem yG9 {a b:List UInt8} {c:Ctx} {σ:St} {K:V->St->Prop} {e:Fx K} (hk:K (.int .i64 (cmpS a b)) σ):wVC prog c (.fn 309 []) [.str a,.str b] σ K e:=by
 refine⟨_,[],rfl,.inr fun w L β aa hm ha=> ?_⟩
 match aa,ha with
 | [v1,v2],⟨h1,h2,_⟩=>
  rw[za3 h1,za3 h2]
  refine⟨.int .i64 (cmpS a b),.int .i64 (cmpS a b),w,L,σ,β, ?_,hk,hm,Le.refl _ _,Ext.refl _ _,RdP.int _ _⟩
  rw[run_callFunc_extern func309 kR kR kR (e:=Extern.BytealgCompare.compare) kR,Lib.run_compareString]
  rw[List.toList_toArray,List.toList_toArray,xb0]
  rfl
theorem xk3 (a b:List UInt8):Pure prog 247 [.str a,.str b] (.int .i64 (cmpS a b)):=by
 refine iW 0 func247 ntmps247 results247 fun c hc hb=>zK ?_
 simp[go_sem]
 refine yG9 ?_
 simp[go_sem]
 exact wR
theorem yG8 (a b:List UInt8):Pure prog 164 [.str a,.str b] (.int .i64 (cmpS a b)):=by
 refine iW 0 func164 ntmps164 results164 fun c hc hb=>zK ?_
 simp[go_sem]
 refine pC (xk3 a b) ?_
 simp[go_sem]
 exact wR
theorem ye9 (x:Int):Pure prog 303 [.int .i64 x] (.bool false):=by
 refine iW 0 func303 ntmps303 results303 fun c hc hb=>zK ?_
 simp[go_sem]
 exact wR
theorem yS6 (x y:Int):Pure prog 236 [.int .i64 x,.int .i64 y] (.int .i64 (cmpI x y)):=by
 generalize hM:cmpI x y=M
 have ret: ∀(r:Int) (σ:St),r=M->wret (some (.int .i64 r)) 0 (fun r s=>r= .int .i64 M/\s= []) σ:=fun r σ h=>by subst h;exact wR
 unfold cmpI at hM
 refine iW 0 func236 ntmps236 results236 fun c hc hb=>zK ?_
 simp[go_sem]
 refine pC (ye9 x) ?_
 simp[go_sem]
 refine pC (ye9 y) ?_
 simp[go_sem]
 repeat' (first|(refine zR (fun q=> ?_) (fun q=> ?_)<;>simp[go_sem,q]))
 all_goals exact ret _ _ (by rw[<-hM];simp only[decide_eq_true_eq,decide_eq_false_iff_not]at*;(repeat' split)<;>omega)
def orL:List Int->Int
 | []=>0
 |x::l=>if x=0 then orL l else x
theorem or_w (l:List Int) (hl:l.length<=maxLen):Pure prog 163 [.sl .ro (l.map fun n=> [V.int .i64 n])] (.int .i64 (orL l)):=by
 generalize hM:orL l=M
 have ret: ∀(r:Int) (σ:St),r=M->wret (some (.int .i64 r)) 0 (fun r s=>r= .int .i64 M/\s= []) σ:=fun r σ h=>by subst h;exact wR
 refine iV 0 func163 ntmps163 results163 fun c hc hb=> ?_
 refine zA ?_
 simp[go_sem]
 refine zH (S:=Nat) [3,6,7,8] (fun i=> [.int .i64 0,.sl .ro (l.map fun n=> [V.int .i64 n]),.int .i64 l.length,.int .i64 i]) (fun _=> []) (fun i=>l.length - i) (fun i=>i<=l.length/\orL (l.drop i)=M) hc hb 0 ⟨A3 _,hM⟩ ?_ ?_
 .exact aO
 rintro i ⟨hi,hinv⟩
 by_cases q:i<l.length
 rotate_left
 .have e:l.drop i= []:=A9 om
  rw[e]at hinv
  refine zA ?_
  simp[go_sem,q]
  exact ret _ _ hinv
 have ei:=zS q (by unfold maxLen at hl;omega)
 obtain⟨r,hr⟩:=eX (l[i])
 rw[A5 q,orL,hr]at hinv
 refine zA ?_
 simp[go_sem,q,hr]
 by_cases w1:r=0
 .rw[if_pos w1]at hinv
  have aa:(r !=0)=false:=by simp[w1]
  simp[go_sem,aa,ei]
  exact zG (i+1) ⟨om,⟨q,hinv⟩,aO⟩
 rw[if_neg w1]at hinv
 have aa:(r !=0)=true:=sU w1
 simp[go_sem,aa]
 exact ret _ _ hinv
def cmpV (a b:GValue):Int:=orL [cmpI a.kind b.kind,cmpI a.n b.n,cmpS a.s b.s]
theorem yr1 (a b:GValue):Pure prog 159 [.agg a.row,.agg b.row] (.int .i64 (cmpV a b)):=by
 have h:=or_w [cmpI a.kind b.kind,cmpI a.n b.n,cmpS a.s b.s] (by simp[maxLen])
 have h1:=yG6 a.kind b.kind
 have h2:=yS6 a.n b.n
 have h3:=yG8 a.s b.s
 unfold cmpV
 generalize orL [cmpI a.kind b.kind,cmpI a.n b.n,cmpS a.s b.s]=M at*
 refine iW 0 func159 ntmps159 results159 fun c hc hb=>zK ?_
 simp[go_sem]
 refine xA [(4,0),(9,0),(14,0),(16,0)] 2 rfl kR kR ?_
 simp[go_sem]
 refine pD h1 ?_
 simp[go_sem]
 refine pD h2 ?_
 simp[go_sem]
 refine pD h3 ?_
 simp[go_sem]
 refine pD h ?_
 simp[go_sem]
 exact wR
def valP (x:GValue×Int):V:= .tup [.agg x.1.row,.int .i64 x.2]
def zeroV:GValue:=⟨0,0,[]⟩
def zq2 (r:Int×Int):GValue×Int:=if r.2=0 then(⟨2,r.1,[]⟩,0)else(zeroV,r.2)
theorem xi5 {x:GValue×Int} {k n e:Int} {s:List UInt8} {σ:St} (h:x=(⟨k,n,s⟩,e)):wret (some (.tup [.agg [.int .i64 k,.int .i64 n,.str s],.int .i64 e])) 0 (fun v s=>v=valP x/\s= []) σ:=by
 subst h
 exact wR
theorem yM1 (r:Int×Int):Pure prog 316 [.int .i64 r.1,.int .i64 r.2] (valP (zq2 r)):=by
 generalize hM:zq2 r=M
 unfold zq2 at hM
 refine iW 0 func316 ntmps316 results316 fun c hc hb=>zK ?_
 simp[go_sem]
 by_cases q:r.2=0
 .rw[if_pos q]at hM
  have q1:(r.2 !=0)=false:=sU q
  simp[go_sem,q1]
  exact xi5 hM.symm
 .rw[if_neg q]at hM
  have q1:(r.2 !=0)=true:=sU q
  simp[go_sem,q1]
  exact xi5 hM.symm
def zV8 (s:List UInt8) (c:Int):Bool:=
 if s= [61]then c==0 else if s= [60,62]then c !=0 else if s= [60]then decide (c<0)else if s= [60,61]then decide (c<=0)else if s= [62]then decide (0<c)else decide (0<=c)
theorem xM5 (s:List UInt8) (x:Int):Pure prog 318 [.str s,.int .i64 x] (.bool (zV8 s x)):=by
 generalize hM:zV8 s x=M
 have ret: ∀(r:Bool) (σ:St),r=M->wret (some (.bool r)) 0 (fun r s=>r= .bool M/\s= []) σ:=fun r σ h=>by subst h;exact wR
 unfold zV8 at hM
 refine iW 0 func318 ntmps318 results318 fun c hc hb=>zK ?_
 simp[go_sem]
 repeat' (first|(refine zR (fun q=> ?_) (fun q=> ?_)<;>simp[go_sem,q]))
 all_goals exact ret _ _ (by rw[<-hM];simp only[beq_iff_eq,beq_eq_false_iff_ne,ne_eq]at*;simp_all)
def zN9 (v:GValue):Bool:=v.kind==1&&(v.n==1&&v.s.isEmpty)
theorem xG1 (v:GValue):Pure prog 153 [.agg v.row] (.bool (zN9 v)):=by
 have h:=zM0 true
 refine iW 0 func153 ntmps153 results153 fun c hc hb=>zK ?_
 simp[go_sem]
 refine xA [(1,0)] 1 rfl kR kR ?_
 simp[go_sem]
 refine pD h ?_
 simp[go_sem,zx4]
 exact wR
def zG4 (wins:Int):List GValue->Bool->GValue
 | [],b=>if b=true then zeroV else zx4 (wins==0)
 |v::l,b=>if v.kind=0 then zG4 wins l true else if v.n=wins then v else zG4 wins l b
theorem xt5 (l:List GValue) (aa:Int) (hl:l.length<=maxLen):Pure prog 315 [.sl .ro (l.map GValue.row),.int .i64 aa] (.agg (zG4 aa l false).row):=by
 generalize hM:zG4 aa l false=M
 have ret: ∀(v:GValue) (σ:St),v=M->wret (some (.agg v.row)) 0 (fun r s=>r= .agg M.row/\s= []) σ:=fun v σ h=>by subst h;exact wR
 refine iV 0 func315 ntmps315 results315 fun c hc hb=> ?_
 refine zA ?_
 simp[go_sem]
 refine zH (S:=Nat×Bool) [1,4,5,8,9,10] (fun u=> [.int .i64 aa,.ptr 0 0,.bool u.2,.sl .ro (l.map GValue.row),.int .i64 l.length,.int .i64 u.1]) (fun _=> [.box [.int .i64 0,.int .i64 0,.str []]]) (fun u=>l.length - u.1)
  (fun u=>u.1<=l.length/\zG4 aa (l.drop u.1) u.2=M) hc hb (0,false) ⟨A3 _,hM⟩ ?_ ?_
 .exact aN 1 (by simp[ltOb,ltC,ltK])
 rintro⟨i,b⟩ ⟨hi,hinv⟩
 simp only at hi hinv
 by_cases q:i<l.length
 rotate_left
 .have e:l.drop i= []:=A9 om
  rw[e,zG4]at hinv
  refine zA ?_
  simp[go_sem,q]
  by_cases w1:b=true
  .rw[if_pos w1]at hinv
   simp[go_sem,w1]
   exact ret zeroV _ hinv
  .rw[if_neg w1]at hinv
   have ab:b=false:=sU w1
   simp[go_sem,ab]
   refine pC (zM0 (aa==0)) ?_
   simp[go_sem]
   exact ret _ _ hinv
 have ei:=zS q (by unfold maxLen at hl;omega)
 obtain⟨r,hr⟩:=eX (l[i])
 rw[A5 q,zG4,hr]at hinv
 refine zA ?_
 simp[go_sem,q,hr]
 refine pC (yA7 r) ?_
 simp[go_sem]
 by_cases w1:r.kind=0
 .rw[if_pos w1]at hinv
  have ab:(r.kind==0)=true:=sU w1
  simp[go_sem,ab,ei]
  exact zG (i+1,true) ⟨by simp only;omega,⟨q,hinv⟩,aN 1 (by simp[ltOb,ltC,ltK])⟩
 rw[if_neg w1]at hinv
 have ab:(r.kind==0)=false:=sU w1
 by_cases w2:r.n=aa
 .rw[if_pos w2]at hinv
  have ad:(r.n==aa)=true:=sU w2
  simp[go_sem,ab,ad]
  exact ret r _ hinv
 rw[if_neg w2]at hinv
 have ad:(r.n==aa)=false:=sU w2
 simp[go_sem,ab,ad,ei]
 exact zG (i+1,b) ⟨by simp only;omega,⟨q,hinv⟩,aN 1 (by simp[ltOb,ltC,ltK])⟩
def cmpOps:List (List UInt8):= [[61],[60,62],[60],[60,61],[62],[62,61]]
def zk3 (s:List UInt8) (l:List GValue):GValue×Int:=
 let x:=l.getD 0 zeroV
 let y:=l.getD 1 zeroV
 if s= [73,83,78,85,76,76]then(zx4 (x.kind==0),0)
 else if s= [78,79,84,78,85,76,76]then(zx4 (!(x.kind==0)),0)
 else if s= [65,78,68]then(zG4 0 l false,0)
 else if s= [79,82]then(zG4 1 l false,0)
 else if(l.any fun v=>v.kind==0)=true then(zeroV,0)
 else if s= [78,79,84]then(zx4 (!zN9 x),0)
 else if s= [78,69,71]then zq2 (rngF (-x.n))
 else if cmpOps.contains s=true then(zx4 (zV8 s (cmpV x y)),0)
 else zq2 (zu3 s x.n y.n)
theorem zo3 {x:GValue×Int} {M:GValue×Int} {σ:St} (h:x=M):wret (some (.tup [.agg x.1.row,.int .i64 x.2])) 0 (fun v s=>v=valP M/\s= []) σ:=by
 subst h
 exact wR
theorem xX1 (s:List UInt8) (l:List GValue) (h1:1<=l.length) (h2:l.length<=2) (hn: ∀v∈l,okI v.n) (hs:l.length=1->s= [73,83,78,85,76,76]∨s= [78,79,84,78,85,76,76]∨s= [78,79,84]∨s= [78,69,71]):
  Pure prog 254 [.str s,.sl .ro (l.map GValue.row)] (valP (zk3 s l)):=by
 obtain⟨x,hx⟩:=eX (l[0]'h1)
 have ag:l.getD 0 zeroV=x:=by rw[A8,A0 h1,hx];rfl
 have an:l[0]? =some x:=by rw[A0 h1,hx]
 have aa:0<l.length:=h1
 have ad:okI x.n:=hn x (hx▸Ab h1)
 generalize hM:zk3 s l=M
 have ret: ∀(v:GValue) (e:Int) (σ:St),(v,e)=M->wret (some (.tup [.agg v.row,.int .i64 e])) 0 (fun r s=>r=valP M/\s= []) σ:=fun v e σ h=>zo3 h
 unfold zk3 at hM
 simp only[ag]at hM
 refine iV 0 func254 ntmps254 results254 fun c hc hb=> ?_
 by_cases a1:s= [73,83,78,85,76,76]
 .rw[if_pos a1]at hM
  refine zA ?_
  simp[go_sem,a1,aa,hx]
  refine pC (yA7 x) ?_
  simp[go_sem]
  refine pC (zM0 (x.kind==0)) ?_
  simp[go_sem]
  exact ret _ _ _ hM
 by_cases a2:s= [78,79,84,78,85,76,76]
 .rw[if_neg a1,if_pos a2]at hM
  refine zA ?_
  simp[go_sem,a2,aa,hx]
  refine pC (yA7 x) ?_
  simp[go_sem]
  refine pC (zM0 (!(x.kind==0))) ?_
  simp[go_sem]
  exact ret _ _ _ hM
 by_cases a3:s= [65,78,68]
 .rw[if_neg a1,if_neg a2,if_pos a3]at hM
  refine zA ?_
  simp[go_sem,a3]
  refine pC (xt5 l 0 (by unfold maxLen;omega)) ?_
  simp[go_sem]
  exact ret _ _ _ hM
 by_cases a4:s= [79,82]
 .rw[if_neg a1,if_neg a2,if_neg a3,if_pos a4]at hM
  refine zA ?_
  simp[go_sem,a4]
  refine pC (xt5 l 1 (by unfold maxLen;omega)) ?_
  simp[go_sem]
  exact ret _ _ _ hM
 rw[if_neg a1,if_neg a2,if_neg a3,if_neg a4]at hM
 have b1:(s== [73,83,78,85,76,76])=false:=sU a1
 have b2:(s== [78,79,84,78,85,76,76])=false:=sU a2
 have b3:(s== [65,78,68])=false:=sU a3
 have b4:(s== [79,82])=false:=sU a4
 refine zA ?_
 simp[go_sem,b1,b2,b3,b4]
 refine zH (S:=Nat) [0,1,4,5,32,33,34] (fun i=> [.str s,.sl .ro (l.map GValue.row),.ptr 0 0,.int .i64 0,.sl .ro (l.map GValue.row),.int .i64 l.length,.int .i64 i]) (fun _=> [.box [.int .i64 0,.int .i64 0,.str []]]) (fun i=>l.length - i)
  (fun i=>i<=l.length/\((l.drop i).any fun v=>v.kind==0)=(l.any fun v=>v.kind==0)) hc hb 0 ⟨A3 _,rfl⟩ ?_ ?_
 .exact aN 1 (by simp[ltOb,ltC,ltK])
 rintro i ⟨hi,hinv⟩
 by_cases q:i<l.length
 .have ei:=zS q om
  obtain⟨r,hr⟩:=eX (l[i])
  rw[A5 q,Dy,hr]at hinv
  refine zA ?_
  simp[go_sem,q,hr]
  refine pC (yA7 r) ?_
  simp[go_sem]
  by_cases w1:r.kind=0
  .have ab:(r.kind==0)=true:=sU w1
   rw[ab,Dd]at hinv
   rw[if_pos hinv.symm]at hM
   simp[go_sem,ab]
   exact ret zeroV 0 _ hM
  .have ab:(r.kind==0)=false:=sU w1
   rw[ab,Bx]at hinv
   simp[go_sem,ab,ei]
   exact zG (i+1) ⟨om,⟨q,hinv⟩,aN 1 (by simp[ltOb,ltC,ltK])⟩
 have e:l.drop i= []:=A9 om
 rw[e,List.any_nil]at hinv
 rw[if_neg (by rw[<-hinv];exact Bool.false_ne_true)]at hM
 by_cases a5:s= [78,79,84]
 .rw[if_pos a5]at hM
  refine zA ?_
  simp[go_sem,q,a5,aa,hx]
  refine pC (xG1 x) ?_
  simp[go_sem]
  refine pC (zM0 (!zN9 x)) ?_
  simp[go_sem]
  exact ret _ _ _ hM
 by_cases a6:s= [78,69,71]
 .rw[if_neg a5,if_pos a6]at hM
  refine zA ?_
  simp[go_sem,q,a6,aa,hx]
  refine pC (yA4 0 x.n dc ad) ?_
  simp[go_sem,wK]
  refine pC (yM1 (rngF (-x.n))) ?_
  simp[go_sem,valP]
  exact zo3 hM
 rw[if_neg a5,if_neg a6]at hM
 have h3:1<l.length:=by
  by_cases q:1<l.length
  .exact q
  .rcases hs om with h|h|h|h
   .exact absurd h a1
   .exact absurd h a2
   .exact absurd h a5
   .exact absurd h a6
 obtain⟨y,hy⟩:=eX (l[1]'h3)
 have ah:l.getD 1 zeroV=y:=by rw[A8,A0 h3,hy];rfl
 have ai:okI y.n:=hn y (hy▸Ab h3)
 rw[ah]at hM
 have b5:(s== [78,79,84])=false:=sU a5
 have b6:(s== [78,69,71])=false:=sU a6
 have aj:=yr1 x y
 have ae:=xM5 s (cmpV x y)
 have af:=zM0 (zV8 s (cmpV x y))
 have ak:=xD7 s x.n y.n ad ai
 have al:=yM1 (zu3 s x.n y.n)
 by_cases a7:cmpOps.contains s=true
 .rw[if_pos a7]at hM
  have a8:s= [61]∨s= [60,62]∨s= [60]∨s= [60,61]∨s= [62]∨s= [62,61]:=by
   simpa[cmpOps]using a7
  rcases a8 with a8|a8|a8|a8|a8|a8
  all_goals
   rw[a8]at ae af hM
   refine zA ?_
   simp[go_sem,q,a8]
   refine xA [(7,0),(8,0),(9,0)] 1 rfl kR kR ?_
   simp[go_sem,aa,hx,h3,hy]
   refine zI om ?_
   simp[go_sem]
   refine pD aj ?_
   simp[go_sem]
   refine pD ae ?_
   simp[go_sem]
   refine pD af ?_
   simp[go_sem]
   exact ret _ _ _ hM
 rw[if_neg a7]at hM
 have a8: ¬s= [61]/\ ¬s= [60,62]/\ ¬s= [60]/\ ¬s= [60,61]/\ ¬s= [62]/\ ¬s= [62,61]:=by
  simpa[cmpOps]using a7
 have c1:(s== [61])=false:=sU a8.1
 have c2:(s== [60,62])=false:=sU a8.2.1
 have c3:(s== [60])=false:=sU a8.2.2.1
 have c4:(s== [60,61])=false:=sU a8.2.2.2.1
 have c5:(s== [62])=false:=sU a8.2.2.2.2.1
 have c6:(s== [62,61])=false:=sU a8.2.2.2.2.2
 refine zA ?_
 simp[go_sem,q,b5,b6,c1,c2,c3,c4,c5,c6]
 refine xA [(9,0),(12,0)] 1 rfl kR kR ?_
 simp[go_sem,aa,hx,h3,hy]
 refine zI om ?_
 simp[go_sem]
 refine pD ak ?_
 simp[go_sem,wK]
 refine pD al ?_
 simp[go_sem,valP]
 exact zo3 hM
mutual
def evF (T:GTable) (row:List GValue):GExpr->GValue×Int
 | .mk k s v args=>
  if k=1 then(v,0)else if k=2 then(row.getD (colF T s).toNat zeroV,0)
  else if(evsF T row args).2≠0 then(zeroV,(evsF T row args).2)else zk3 s (evsF T row args).1
def evsF (T:GTable) (row:List GValue):List GExpr->List GValue×Int
 | []=>([],0)
 |e::l=>if(evF T row e).2≠0 then([],(evF T row e).2)else((evF T row e).1::(evsF T row l).1,(evsF T row l).2)
end
theorem xw4 (T:GTable) (row:List GValue) (e:GExpr):evF T row e=
  if e.kind=1 then(e.v,0)else if e.kind=2 then(row.getD (colF T e.s).toNat zeroV,0)
  else if(evsF T row e.args).2≠0 then(zeroV,(evsF T row e.args).2)else zk3 e.s (evsF T row e.args).1:=by cases e;rfl
structure VK (v:GValue) (k:Int):Prop where
 may:mayF v=true
 n:okI v.n
 kind:v.kind=k∨v.kind=0
theorem zM2 (k:Int):VK zeroV k:=⟨dc,dc,.inr rfl⟩
theorem zT7 (b:Bool):VK (zx4 b) 1:=by cases b<;>exact⟨dc,dc,.inl rfl⟩
theorem yC0 (n:Int):okI (rngF n).1:=by
 grind[rngF]
theorem yW4 {s:List UInt8} {a b:Int} (ha:okI a) (hb:okI b):okI (zu3 s a b).1:=by
 unfold zu3
 repeat' split
 all_goals first|exact yC0 _|exact xR1 ha hb|decide
theorem yw6 {r:Int×Int} (h:okI r.1):VK (zq2 r).1 2:=by
 unfold zq2
 split
 .exact⟨rfl,h,.inl rfl⟩
 grind[zM2]
theorem yd8 (w:Int): ∀(l:List GValue) (b:Bool),(∀v∈l,VK v 1)->VK (zG4 w l b) 1
 | [],b,_=>by
  grind[zG4,zM2,zT7]
 |v::l,b,h=>by
  rw[zG4]
  split
  .exact yd8 w l true fun x hx=>h x (Am _ hx)
  .split
   .exact h v (Al ..)
   .exact yd8 w l b fun x hx=>h x (Am _ hx)
theorem zC8 {m s:Bool} {k k':Int} (h:zT3 m s k=(k',0)):m=true/\s=true/\k'=k:=by
 unfold zT3 at h
 grind
inductive OpK (s:List UInt8) (ks:List Int) (k:Int):Prop
 |null (hs:s= [73,83,78,85,76,76]∨s= [78,79,84,78,85,76,76]) (hl:ks.length=1) (hk:k=1)
 |not (hs:s= [78,79,84]) (hl:ks.length=1) (ha:allK ks 1=true) (hk:k=1)
 |neg (hs:s= [78,69,71]) (hl:ks.length=1) (ha:allK ks 2=true) (hk:k=2)
 |both (hs:s= [79,82]∨s= [65,78,68]) (hl:ks.length=2) (ha:allK ks 1=true) (hk:k=1)
 |sum (hs:s= [43]∨s= [45]∨s= [42]∨s= [47]∨s= [37]) (hl:ks.length=2) (ha:allK ks 2=true) (hk:k=2)
 |cmp (hs:s= [61]∨s= [60,62]∨s= [60]∨s= [60,61]∨s= [62]∨s= [62,61]) (hl:ks.length=2) (hk:k=1)
theorem xC6 {s:List UInt8} {ks:List Int} {k:Int} (h:zw5 s ks=(k,0)):OpK s ks k:=by
 have one:((ks.length:Int)==1)=true->ks.length=1:=(by grind)
 have two:((ks.length:Int)==2)=true->ks.length=2:=(by grind)
 unfold zw5 at h
 split at h
 .obtain⟨h1,_,h3⟩:=zC8 h;exact .null om (one h1) h3
 split at h
 .obtain⟨h1,h2,h3⟩:=zC8 h;exact .not om (one h1) h2 h3
 split at h
 .obtain⟨h1,h2,h3⟩:=zC8 h;exact .neg om (one h1) h2 h3
 split at h
 .obtain⟨h1,h2,h3⟩:=zC8 h;exact .both om (two h1) h2 h3
 split at h
 .obtain⟨h1,h2,h3⟩:=zC8 h;exact .sum om (two h1) h2 h3
 split at h
 .obtain⟨h1,_,h3⟩:=zC8 h;exact .cmp om (two h1) h3
 grind
theorem yF3 {R:GValue->Int->Prop}: ∀{l:List GValue} {ks:List Int},All2 R l ks->l.length=ks.length
 | [],[],_=>rfl
 |_::_,_::_,⟨_,h⟩=>by rw[Aa,Aa,yF3 h]
theorem yx4 {k:Int}: ∀{l:List GValue} {ks:List Int},All2 VK l ks->allK ks k=true-> ∀v∈l,VK v k
 | [],[],_,_,v,hv=>by cases hv
 |x::l,y::ks,⟨h1,h2⟩,ha,v,hv=>by
  unfold allK at ha
  rw[Ac,A1,Be,beq_iff_eq,beq_iff_eq]at ha
  rcases Af.1 hv with rfl|hv
  .exact⟨h1.may,h1.n,by
    rcases h1.kind with q|q
    all_goals omega⟩
  .exact yx4 h2 ha.2 v hv
theorem xs4 {R:GValue->Int->Prop} (hR: ∀v k,R v k->okI v.n): ∀{l:List GValue} {ks:List Int},All2 R l ks-> ∀v∈l,okI v.n
 | [],[],_,v,hv=>by cases hv
 |x::l,y::ks,⟨h1,h2⟩,v,hv=>by
  rcases Af.1 hv with rfl|hv
  .grind
  .exact xs4 hR h2 v hv
theorem xk7 (l:List GValue):zk3 [78,79,84] l=if(l.any fun v=>v.kind==0)=true then(zeroV,0)else(zx4 (!zN9 (l.getD 0 zeroV)),0):=rfl
theorem xk6 (l:List GValue):zk3 [78,69,71] l=if(l.any fun v=>v.kind==0)=true then(zeroV,0)else zq2 (rngF (-(l.getD 0 zeroV).n)):=rfl
theorem xk5 {s:List UInt8} (hs:s= [61]∨s= [60,62]∨s= [60]∨s= [60,61]∨s= [62]∨s= [62,61]) (l:List GValue):
  zk3 s l=if(l.any fun v=>v.kind==0)=true then(zeroV,0)else(zx4 (zV8 s (cmpV (l.getD 0 zeroV) (l.getD 1 zeroV))),0):=by
 rcases hs with rfl|rfl|rfl|rfl|rfl|rfl<;>rfl
theorem xk8 {s:List UInt8} (hs:s= [43]∨s= [45]∨s= [42]∨s= [47]∨s= [37]) (l:List GValue):
  zk3 s l=if(l.any fun v=>v.kind==0)=true then(zeroV,0)else zq2 (zu3 s (l.getD 0 zeroV).n (l.getD 1 zeroV).n):=by
 rcases hs with rfl|rfl|rfl|rfl|rfl<;>rfl
theorem xb7 {s:List UInt8} {l:List GValue} {ks:List Int} {k:Int} (ho:zw5 s ks=(k,0)) (ha:All2 VK l ks):
  VK (zk3 s l).1 k/\1<=l.length/\l.length<=2/\(∀v∈l,okI v.n)/\(l.length=1->s= [73,83,78,85,76,76]∨s= [78,79,84,78,85,76,76]∨s= [78,79,84]∨s= [78,69,71]):=by
 have hlen:=yF3 ha
 have hn:=xs4 (fun _ _ h=>VK.n h) ha
 have hx: ∀j,okI (l.getD j zeroV).n:=fun j=>by
  rw[A8]
  cases hj:l[j]? with
  |none=>decide
  |some v=>grind
 have ab: ∀n:Int,okI (rngF n).1:=yC0
 cases xC6 ho with
 |null hs hl hk=>
  subst hk
  refine⟨?_,om,om,hn,(by grind)⟩
  rcases hs with rfl|rfl<;>exact zT7 _
 |not hs hl aa hk=>
  grind[xk7,zM2,zT7]
 |neg hs hl aa hk=>
  grind[xk6,zM2,yw6]
 |both hs hl aa hk=>
  subst hk
  refine⟨?_,om,om,hn,om⟩
  rcases hs with rfl|rfl
  .exact yd8 1 l false (yx4 ha aa)
  .exact yd8 0 l false (yx4 ha aa)
 |sum hs hl aa hk=>
  grind[xk8,zM2,yw6,yW4]
 |cmp hs hl hk=>
  grind[xk5,zM2,zT7]
structure RowOk (T:GTable) (row:List GValue):Prop where
 len:row.length=T.cols.length
 cell: ∀(j:Nat) (C:GCol) (v:GValue),T.cols[j]? =some C->row[j]? =some v->VK v C.kind
theorem xb9 {T:GTable} {row:List GValue} (hr:RowOk T row): ∀(n:Nat) (e:GExpr),za0 e<=n->Good e->(zk5 T e).2=0->(evF T row e).2=0->VK (evF T row e).1 (zk5 T e).1
 |0,e,h,_,_,_=>by grind[zK8]
 |n+1,e,h,hg,hk,he=>by
  have ih:=xb9 hr n
  have ad:=zk2 e
  rw[xw4]at he⊢
  rw[yj4]at hk⊢
  by_cases q1:e.kind=1
  .rw[if_pos q1]at hk⊢
   rw[if_pos q1]
   by_cases w:e.s.isEmpty=false∨e.args.isEmpty=false∨mayF e.v=false
   .grind
   .rw[if_neg w]
    refine⟨by grind,⟨hg.v.n.1,hg.v.n.2⟩,.inl rfl⟩
  rw[if_neg q1]at hk he⊢
  rw[if_neg q1]
  by_cases q2:e.kind=2
  .rw[if_pos q2]at hk⊢
   rw[if_pos q2]
   by_cases w:colF T e.s<0
   .grind
   rw[if_neg w]at hk⊢
   by_cases w2:e.args.isEmpty=false∨zs3 e.v=false
   .grind
   rw[if_neg w2]
   obtain⟨j,hj,aa⟩:=zQ4 T e.s w
   have ab:j<row.length:=by rw[hr.len];omega
   simp only
   rw[hj,As,A8,A0 ab]
   unfold colK
   rw[As,A0 aa]
   exact hr.cell j _ _ sM sM
  rw[if_neg q2]at hk he⊢
  rw[if_neg q2]
  by_cases q3:e.kind=3
  rotate_left
  .grind
  rw[if_pos q3]at hk⊢
  have ae:=hg.sub
  have list: ∀args:List GExpr,(∀x∈args,x∈e.args)->(wS T args).2=0->(evsF T row args).2=0->All2 VK (evsF T row args).1 (wS T args).1:=by
   intro args
   induction args with
   |nil=>intro _ _ _;trivial
   |cons x l af=>
    intro hm hk he
    rw[wS]at hk⊢
    rw[evsF]at he⊢
    by_cases w1:(zk5 T x).2=0
    rotate_left
    .grind
    by_cases w2:(evF T row x).2=0
    rotate_left
    .grind
    have n1: ¬(zk5 T x).2≠0:=om
    have n2: ¬(evF T row x).2≠0:=om
    rw[if_neg n1]at hk⊢
    rw[if_neg n2]at he⊢
    have hx:=hm x (Al ..)
    have ag:=zl8 e.args x hx
    exact⟨(by grind),(by grind)⟩
  by_cases w1:(wS T e.args).2=0
  rotate_left
  .grind
  by_cases w2:(evsF T row e.args).2=0
  rotate_left
  .grind
  have n1: ¬(wS T e.args).2≠0:=om
  have n2: ¬(evsF T row e.args).2≠0:=om
  rw[if_neg n1]at hk⊢
  rw[if_neg n2]at he⊢
  by_cases w3:zs3 e.v=false
  .grind
  rw[if_neg w3]at hk⊢
  exact(xb7 (Prod.ext rfl hk) (by grind)).1
theorem yj5 {T:GTable}: ∀{args:List GExpr},(wS T args).2=0-> ∀x∈args,(zk5 T x).2=0
 | [],_,x,hx=>by cases hx
 |y::l,h,x,hx=>by
  rw[wS]at h
  by_cases w:(zk5 T y).2=0
  .have n1: ¬(zk5 T y).2≠0:=fun h=>h w
   rw[if_neg n1]at h
   rcases Af.1 hx with rfl|hx
   .exact w
   .exact yj5 h x hx
  .rw[if_pos w]at h;exact absurd h w
theorem xw9 {T:GTable} {row:List GValue} (hr:RowOk T row) (n:Nat): ∀{args:List GExpr},(∀x∈args,za0 x<=n/\Good x)->(wS T args).2=0->(evsF T row args).2=0->All2 VK (evsF T row args).1 (wS T args).1
 | [],_,_,_=>trivial
 |x::l,hm,hk,he=>by
  rw[wS]at hk⊢
  rw[evsF]at he⊢
  by_cases w1:(zk5 T x).2=0
  rotate_left
  .rw[if_pos w1]at hk;exact absurd hk w1
  by_cases w2:(evF T row x).2=0
  rotate_left
  .rw[if_pos w2]at he;exact absurd he w2
  have n1: ¬(zk5 T x).2≠0:=fun h=>h w1
  have n2: ¬(evF T row x).2≠0:=fun h=>h w2
  rw[if_neg n1]at hk⊢
  rw[if_neg n2]at he⊢
  have hx:=hm x (Al ..)
  exact⟨xb9 hr n x hx.1 hx.2 w1 w2,xw9 hr n (fun y hy=>hm y (Am _ hy)) hk he⟩
theorem yT1 {T:GTable} {row:List GValue} (hr:RowOk T row) (hT:T.cols.length<=maxLen): ∀(n:Nat) (e:GExpr),za0 e<=n->Wide e->Good e->(zk5 T e).2=0->Pure prog 178 [.agg T.row,.sl .ro (row.map GValue.row),.agg e.row] (valP (evF T row e))
 |0,e,h,_,_,_=>by have:=zK8 e;omega
 |n+1,e,h,hw,hg,hk=>by
  have ih:=yT1 hr hT n
  have hok:= @xw9 _ _ hr n
  have av:=zk2 e
  have hlen:=hw.len
  have ai:=hw.sub
  have ak:=hg.sub
  have af:=yq5 T e.s hT
  rw[show zf5 (fun c:GCol=>c.name==e.s) T.cols 0=colF T e.s from rfl]at af
  obtain⟨M,hM⟩:=eX (evF T row e)
  rw[hM]
  rw[xw4]at hM
  rw[yj4]at hk
  have ret: ∀(v:GValue) (e:Int) (σ:St),(v,e)=M->wret (some (.tup [.agg v.row,.int .i64 e])) 0 (fun r s=>r=valP M/\s= []) σ:=fun v e σ h=>zo3 h
  refine iV 0 func178 ntmps178 results178 fun c hc hb=> ?_
  refine zA ?_
  simp[go_sem]
  by_cases q1:e.kind=1
  .have ag:(e.kind==1)=true:=sU q1
   rw[if_pos q1]at hM
   simp[go_sem,ag]
   exact ret _ _ _ hM
  rw[if_neg q1]at hM hk
  have ag:(e.kind==1)=false:=sU q1
  by_cases q2:e.kind=2
  .have al:(e.kind==2)=true:=sU q2
   rw[if_pos q2]at hM hk
   by_cases w:colF T e.s<0
   .rw[if_pos w]at hk;cases hk
   obtain⟨j,hj,aw⟩:=zQ4 T e.s w
   have ao:j<row.length:=by rw[hr.len];exact aw
   obtain⟨v,hv⟩:=eX (row[j])
   rw[hj,As,A8,A0 ao,hv]at hM
   rw[hj]at af
   simp[go_sem,ag,al]
   refine zM af cB (zN sg rfl) rfl ?_
   simp[go_sem,ao,hv]
   exact ret _ _ _ hM
  rw[if_neg q2]at hM hk
  have al:(e.kind==2)=false:=sU q2
  by_cases q3:e.kind=3
  rotate_left
  .rw[if_neg q3]at hk;cases hk
  rw[if_pos q3]at hk
  obtain⟨args,ab⟩:=eX e.args
  rw[ab]at av hlen ai ak hM hk
  by_cases w1:(wS T args).2=0
  rotate_left
  .rw[if_pos w1]at hk;exact absurd hk w1
  have n1: ¬(wS T args).2≠0:=fun h=>h w1
  rw[if_neg n1]at hk
  by_cases w3:zs3 e.v=false
  .rw[if_pos w3]at hk;cases hk
  rw[if_neg w3]at hk
  have ax:zw5 e.s (wS T args).1=((zw5 e.s (wS T args).1).1,0):=Prod.ext rfl hk
  have aq:=yj5 w1
  have aj:(evsF T row args).2=0->All2 VK (evsF T row args).1 (wS T args).1:=fun h=>
   hok (fun x hx=>⟨by have:=zl8 args x hx;omega,ak x hx⟩) w1 h
  obtain⟨K,hK⟩:=eX (evsF T row args)
  rw[hK]at hM aj
  simp[go_sem,ag,al,ab]
  refine zo5 8 3 dc sg ?_
  refine zH (S:=Nat×List GValue) [1,3,5,6,8,29,30,31] (fun u=> [.sl .ro (row.map GValue.row),.ptr 0 0,.ptr 1 0,.ptr 2 0,.sl (.app 3) (u.2.map GValue.row),.sl .ro (args.map GExpr.row),.int .i64 args.length,.int .i64 (u.1:Int)])
   (fun u=> [.box T.row,.box e.row,.box [.int .i64 0,.int .i64 0,.str []],.app u.2.length 3]) (fun u=>args.length - u.1)
   (fun u=>u.1<=args.length/\u.2.length=u.1/\(evsF T row (args.drop u.1)).2=K.2/\(K.2=0->u.2++(evsF T row (args.drop u.1)).1=K.1)) hc hb (0,[])
   ⟨A3 _,rfl,by simp only[B1];rw[hK],fun _=>by simp only[B1];rw[hK];rfl⟩ ?_ ?_
  .exact at_n 4 (by simp[go_sem,ab]) rfl (by simp[ltOb,ltC,ltK,GExpr.row_eq,GTable.row]) (A3 _) (zF sg rfl)
  rintro⟨i,l⟩ ⟨hi,hl,hinv,aa⟩
  simp only at hi hl hinv aa
  by_cases q:i<args.length
  rotate_left
  .rw[A9 om,evsF]at hinv aa
   have ae:K.2=0:=hinv.symm
   have ar:l=K.1:=by have:=aa ae;simpa using this
   have n2: ¬K.2≠0:=fun h=>h ae
   rw[if_neg n2,<-ar]at hM
   have hA:=aj ae
   rw[<-ar]at hA
   obtain⟨_,d1,d2,d3,d4⟩:=xb7 ax hA
   have au:=xX1 e.s l d1 d2 d3 d4
   generalize zk3 e.s l=o at au hM
   refine zA ?_
   simp[go_sem,q]
   refine pC au ?_
   simp[go_sem,valP]
   exact zo3 hM
  have ei:=zS q om
  obtain⟨x,hx⟩:=eX (args[i])
  have ah:x∈args:=hx▸Ab q
  have ay:=zl8 args x ah
  rw[A5 q,hx,evsF]at hinv aa
  have ad:=ih x om (ai x ah) (ak x ah) (aq x ah)
  generalize evF T row x=kx at ad hinv aa
  by_cases q4:kx.2=0
  .have n3: ¬kx.2≠0:=fun h=>h q4
   rw[if_neg n3]at hinv aa
   have an:(kx.2 !=0)=false:=sU q4
   refine zA ?_
   simp[go_sem,q,hx]
   refine zM ad cB (zN sg (by rw[GExpr.row_eq];rfl)) rfl ?_
   simp[go_sem,valP,an]
   refine zI ⟨om,by unfold uni;simp⟩ ?_
   simp[go_sem,ei]
   refine zG (i+1,l++ [kx.1]) ⟨by simp only;omega,⟨by simp only;omega,by simp;omega,hinv,fun h=>by have:=aa h;simpa using this⟩, ?_⟩
   exact aN 4 (by simp[ltOb,ltC,ltK,GExpr.row_eq])
  .rw[if_pos q4]at hinv
   have an:(kx.2 !=0)=true:=sU q4
   have ae:kx.2=K.2:=hinv
   rw[if_pos (by rw[<-ae];exact q4),<-ae]at hM
   refine zA ?_
   simp[go_sem,q,hx]
   refine zM ad cB (zN sg (by rw[GExpr.row_eq];rfl)) rfl ?_
   simp[go_sem,valP,an]
   exact ret zeroV _ _ hM
def noT:GTable:=⟨[],[],0,0,0,⟨[],[],[],0,0,0⟩⟩
theorem xf0:RowOk noT []:=⟨rfl,fun j C v h=>by simp[noT]at h⟩
theorem xA9:noT.cols= []:=rfl
def evN (e:GExpr):GValue×Int:=if(zb3 noT e).2≠0 then(zeroV,(zb3 noT e).2)else evF noT [] e
theorem xX5 {e:GExpr} (he:EOk e) (h:(evN e).2=0):VK (evN e).1 (zb3 noT e).1:=by
 unfold evN at h⊢
 by_cases q:(zb3 noT e).2=0
 rotate_left
 .rw[if_pos q]at h;exact absurd h q
 have n1: ¬(zb3 noT e).2≠0:=fun h=>h q
 rw[if_neg n1]at h⊢
 have hs:=he.size
 unfold zb3 at q⊢
 by_cases d:za0 e<=64
 .rw[if_pos d]at q⊢
  exact xb9 xf0 64 e d he.good q h
 .rw[if_neg d]at q;cases q
theorem xJ0 (e:GExpr) (he:EOk e):Pure prog 106 [.agg noT.row,.sl .ro [],.agg e.row] (valP (evN e)):=by
 have ab:=yx3 noT (by simp[noT,maxLen]) e he
 have ad:=fun(d:za0 e<=64) (k:(zk5 noT e).2=0)=>yT1 xf0 (by simp[noT,maxLen]) 64 e d he.wide he.good k
 generalize hM:evN e=M
 unfold evN at hM
 have ret: ∀(v:GValue) (e:Int) (σ:St),(v,e)=M->wret (some (.tup [.agg v.row,.int .i64 e])) 0 (fun r s=>r=valP M/\s= []) σ:=fun v e σ h=>zo3 h
 refine iV 0 func106 ntmps106 results106 fun c hc hb=> ?_
 refine zA ?_
 simp[go_sem]
 refine zM ab cB (zN sg (by rw[GExpr.row_eq];rfl)) rfl ?_
 simp[go_sem,wK]
 by_cases q:(zb3 noT e).2=0
 rotate_left
 .have q':((zb3 noT e).2 !=0)=true:=sU q
  rw[if_pos q]at hM
  simp[go_sem,q']
  exact ret zeroV _ _ hM
 have q':((zb3 noT e).2 !=0)=false:=sU q
 have n1: ¬(zb3 noT e).2≠0:=fun h=>h q
 rw[if_neg n1]at hM
 have aa:Pure prog 178 [.agg noT.row,.sl .ro [],.agg e.row] (valP (evF noT [] e)):=by
  unfold zb3 at q
  by_cases d:za0 e<=64
  .rw[if_pos d]at q;exact ad d q
  .rw[if_neg d]at q;cases q
 rw[hM]at aa
 simp[go_sem,q',xA9]
 refine zH (S:=Unit) [1,3,5,6,29,30,31] (fun _=> [.sl .ro [],.ptr 0 0,.ptr 1 0,.ptr 2 0,.sl .ro [],.int .i64 0,.int .i64 0])
   (fun _=> [.box noT.row,.box e.row,.box [.int .i64 0,.int .i64 0,.str []]]) (fun _=>0) (fun _=>True) hc hb () trivial ?_ ?_
 .exact at_n 3 (by simp[go_sem,noT]) rfl (by simp[ltOb,ltC,ltK,GExpr.row_eq,GTable.row]) (A3 _) (zF sg rfl)
 rintro u _
 refine zA ?_
 simp[go_sem]
 refine zM aa cB (zN sg (by rw[GExpr.row_eq];rfl)) rfl ?_
 simp[go_sem,valP]
 exact zo3 rfl
end Go.Proofs.YtefbicjgbaaieaaGreat
namespace Go.Proofs.YtefbicjgbaaieaaGreat.R
open Go Go.Vx Go.Proofs.Tryz
set_option maxRecDepth 100000
variable {cols:List GCol}
def zn6:List GCol->List GValue->Int
 |c::cs,v::vs=>if mayF v=false then 9 else if v.kind=0/\c.null=false then 16 else if v.kind≠0/\v.kind≠c.kind then 15 else zn6 cs vs
 |_,_=>0
def mayT (cols:List GCol) (row:List GValue):Int:=if row.length≠cols.length then 9 else zn6 cols row
theorem yE9 (t:GTable) (row:List GValue) (hr:row.length<=maxLen):Pure prog 149 [.agg t.row,.sl .ro (row.map GValue.row)] (.int .i64 (mayT t.cols row)):=by
 obtain⟨name,cols,key,place,region,zone⟩:=t
 refine iV 0 func149 ntmps149 results149 fun c hc hb=> ?_
 refine zA ?_
 have ret: ∀(r:Int) (σ:St),r=mayT cols row->wret (some (.int .i64 r)) 0 (fun r s=>r= .int .i64 (mayT cols row)/\s= []) σ:=fun r σ h=>by subst h;exact wR
 simp[go_sem]
 refine zR (fun h=> ?_) (fun h=> ?_)
 .have h:row.length≠cols.length:=by simp at h;omega
  simp[go_sem]
  exact ret _ _ (by rw[mayT,if_pos h])
 have h:row.length=cols.length:=by simp at h;omega
 rw[mayT,if_neg om]at ret⊢
 simp[go_sem]
 refine zH (S:=Nat) [2,13,14,15] (fun i=> [.ptr 0 0,.sl .ro (row.map GValue.row),.int .i64 row.length,.int .i64 i]) (fun _=> [.box (GTable.row ⟨name,cols,key,place,region,zone⟩)]) (fun i=>row.length - i) (fun i=>i<=row.length/\zn6 (cols.drop i) (row.drop i)=zn6 cols row) hc hb 0 ⟨A3 _,rfl⟩ ?_ ?_
 .exact aN 1 rfl
 rintro i ⟨hi,hinv⟩
 refine zA ?_
 simp[go_sem]
 refine zR (fun q=> ?_) (fun q=> ?_)
 .have q:i<row.length:=sU q
  have q2:i<cols.length:=om
  have ei:=zS q (by unfold maxLen at hr;omega)
  rw[A5 q,A5 q2]at hinv
  obtain⟨⟨k,n,s⟩,hv⟩: ∃v,row[i]=v:=⟨_,rfl⟩
  obtain⟨⟨cn,ck,cb⟩,ab⟩: ∃v,cols[i]=v:=⟨_,rfl⟩
  rw[hv,ab,zn6]at hinv
  simp only at hinv
  simp[go_sem,q,hv]
  refine pC (yq6 ⟨k,n,s⟩) ?_
  simp[go_sem]
  refine zR (fun h1=> ?_) (fun h1=> ?_)
  .have h1:mayF ⟨k,n,s⟩=false:=sU h1
   rw[if_pos h1]at hinv
   simp[go_sem]
   exact ret _ _ hinv
  have h1: ¬mayF ⟨k,n,s⟩=false:=sU h1
  rw[if_neg h1]at hinv
  simp[go_sem]
  refine xB (fun h2=> ?_) (fun h2=> ?_)
  .have aa:k=0:=sU h2
   simp[go_sem,h2,q2,ab]
   refine zR (fun h3=> ?_) (fun h3=> ?_)
   .have h3:cb=false:=sU h3
    rw[if_pos ⟨aa,h3⟩]at hinv
    simp[go_sem]
    exact ret _ _ hinv
   have h3: ¬cb=false:=sU h3
   rw[if_neg (fun w=>h3 w.2),if_neg (fun w=>w.1 aa)]at hinv
   simp[go_sem]
   refine xA [] 2 rfl kR kR ?_
   simp[go_sem,aa,q2,ab,ei]
   exact zG (i+1) ⟨om,⟨q,hinv⟩,aM 1 rfl (zF (by simp[go_sem,ei]) rfl)⟩
  .have aa: ¬k=0:=sU h2
   rw[if_neg (fun w=>aa w.1)]at hinv
   simp[go_sem,h2]
   refine xA [] 2 rfl kR kR ?_
   have ad:(k !=0)=true:=sU aa
   simp[go_sem,ad,q2,ab]
   refine zR (fun h4=> ?_) (fun h4=> ?_)
   .have h4: ¬k=ck:=sU h4
    rw[if_pos ⟨aa,h4⟩]at hinv
    simp[go_sem]
    exact ret _ _ hinv
   have h4:k=ck:=sU h4
   rw[if_neg (fun w=>w.2 h4)]at hinv
   simp[go_sem,ei]
   exact zG (i+1) ⟨om,⟨q,hinv⟩,aM 1 rfl (zF (by simp[go_sem,ei]) rfl)⟩
 .have q:i=row.length:=by
   have: ¬i<row.length:=sU q
   omega
  subst q
  rw[Cf,h,Cf]at hinv
  simp[go_sem]
  exact ret _ _ hinv
def keyR (n j:Nat) (t:GTable) (row:List GValue) (rg:Int->Int×Int):Int×List UInt8×Int:=
 if mayT t.cols row≠0 then(0,[],mayT t.cols row)
 else
  let r:=rg (if t.place=0 then min (max (row.headD v0).n (-1)) 4 else 0)
  if r.2≠0 then(0,[],r.2)else(r.1,zl6 n j (row.getD t.key.toNat v0),0)
def keyV (r:Int×List UInt8×Int):V:= .tup [.int .i64 r.1,.str r.2.1,.int .i64 r.2.2]
theorem zR8 {r:Int×List UInt8×Int} {a e:Int} {s:List UInt8} {σ:St} (h:r=(a,s,e)):wret (some (.tup [.int .i64 a,.str s,.int .i64 e])) 0 (fun v s=>v=keyV r/\s= []) σ:=by
 subst h
 exact wR
theorem zk6 {row:List GValue} (h:mayT cols row=0):row.length=cols.length:=by
 unfold mayT at h
 split at h
 .cases h
 .rename_i h2;omega
theorem xr9 (ae:List (List V)) (ts:List GTable) (j:Nat) (hj:j<ts.length) (t:GTable) (ht:ts[j]=t) (row:List GValue) (hr:row.length<=maxLen) (hL:mayT t.cols row=0->LightR row) (hn:ts.length<=maxB) (hk:0<=t.key/\t.key<t.cols.length) (rg:Int->Int×Int)
  (ag: ∀r,-1<=r->r<=4->(t.place≠0->r=0)->Pure prog 62 [.agg [.sl .ro ae,.sl .ro (ts.map GTable.row)],.int .i64 j,.int .i64 r] (.tup [.int .i64 (rg r).1,.int .i64 (rg r).2])):
  Pure prog 88 [.agg [.sl .ro ae,.sl .ro (ts.map GTable.row)],.int .i64 j,.sl .ro (row.map GValue.row)] (keyV (keyR ts.length j t row rg)):=by
 have af:=yE9 t row hr
 have hbound: ∀v:GValue,v.ok->v.s.length<=500->_:=fun v h1 h2=>xI9 ae (ts.map GTable.row) j v (sU hn) h1 h2
 simp only[An]at hbound
 generalize aa:keyR ts.length j t row rg=res
 unfold keyR at aa
 obtain⟨m,hm⟩:=eX (mayT t.cols row)
 have hlen:m=0->row.length=t.cols.length:=fun h=>zk6 (hm.trans h)
 rw[hm]at af hL aa
 obtain⟨name,cols,key,place,region,zone⟩:=t
 simp only at hk hlen aa
 obtain⟨q,rfl⟩: ∃q:Nat,key=q:=⟨key.toNat,om⟩
 refine iV 0 func88 ntmps88 results88 fun c hc hb=> ?_
 refine zA ?_
 simp[go_sem]
 refine pC (is_w ae (ts.map GTable.row) j) ?_
 simp[go_sem,hj,ht]
 refine zM af cB (zN sg rfl) rfl ?_
 simp[go_sem]
 refine zR (fun h=> ?_) (fun h=> ?_)
 .have h:m≠0:=sU h
  simp[go_sem]
  exact zR8 (by rw[<-aa,if_pos h])
 have h:m=0:=sU h
 have hl:=hlen h
 have hq:q<row.length:=om
 have h0:0<row.length:=om
 have ah:=hL h
 obtain⟨v,hv⟩:=eX (row[q])
 obtain⟨v1,ai⟩: ∃v,row[0]=v:=⟨_,rfl⟩
 have aj:v∈row:=hv▸Ab hq
 have e1:row.headD v0=v1:=by
  rw[<-ai]
  cases row with
  |nil=>simp at h0
  |cons a l=>rfl
 have e2:row.getD q v0=v:=by rw[A8,A0 hq,hv];rfl
 rw[if_neg om,e1,As,e2]at aa
 have ak:=hbound v (ah.ok v aj) (ah.s v aj)
 have fin: ∀(x:Int) (σ:St),(if place=0 then min (max v1.n (-1)) 4 else 0)=x->((rg x).2≠0->res=(0,[],(rg x).2))/\((rg x).2=0->res=((rg x).1,zl6 ts.length j v,0)):=fun x σ hx=>by
  rw[hx]at aa
  exact⟨fun w=>by rw[<-aa];exact if_pos w,fun w=>by rw[<-aa];exact if_neg (fun q=>q w)⟩
 simp[go_sem]
 refine zR (fun hp=> ?_) (fun hp=> ?_)
 .have hp:place=0:=sU hp
  simp[go_sem,h0,ai]
  obtain⟨x,hx⟩:=eX ((if 4<if v1.n< -1 then -1 else v1.n then 4 else if v1.n< -1 then -1 else v1.n))
  have al:x=min (max v1.n (-1)) 4:=by rw[<-hx];split<;>split<;>omega
  rw[hx]
  have ab:=fin x [] (by rw[if_pos hp,al])
  have ad:=ag x om om (fun w=>absurd hp w)
  revert ab ad
  generalize rg x=o
  obtain⟨oa,oe⟩:=o
  intro ab ad
  simp only at ab ad
  refine pC ad ?_
  simp[go_sem]
  refine zR (fun w=> ?_) (fun w=> ?_)
  .have w:oe≠0:=sU w
   simp[go_sem]
   exact zR8 (ab.1 w)
  have w:oe=0:=sU w
  simp[go_sem]
  refine xA [(8,0)] 2 rfl kR kR ?_
  simp[go_sem,hq,hv]
  refine pD ak ?_
  simp[go_sem]
  exact zR8 (ab.2 w)
 .have hp: ¬place=0:=sU hp
  have ab:=fin 0 [] (by rw[if_neg hp])
  have ad:=ag 0 om om (fun _=>rfl)
  revert ab ad
  generalize rg 0=o
  obtain⟨oa,oe⟩:=o
  intro ab ad
  simp only at ab ad
  simp[go_sem]
  refine pC ad ?_
  simp[go_sem]
  refine zR (fun w=> ?_) (fun w=> ?_)
  .have w:oe≠0:=sU w
   simp[go_sem]
   exact zR8 (ab.1 w)
  have w:oe=0:=sU w
  simp[go_sem]
  refine xA [(8,0)] 2 rfl kR kR ?_
  simp[go_sem,hq,hv]
  refine pD ak ?_
  simp[go_sem]
  exact zR8 (ab.2 w)
theorem xV2 {n:Nat} (h:n<256):(UInt8.ofNat n).toNat=n:=by
 simp_all
theorem zm4: ∀a:List UInt8,Op.bytesLess a a=false
 | []=>rfl
 |a::l=>by simp[Op.bytesLess,zm4 l]
theorem zv3: ∀a b c:List UInt8,Op.bytesLess a b=true->Op.bytesLess b c=true->Op.bytesLess a c=true
 |_,[],_,h,_=>by grind[Op.bytesLess]
 |_,_::_,[],_,h=>by trivial
 | [],_::_,_::_,_,_=>rfl
 |a::l,b::m,d::n,h1,h2=>by
  simp only[Op.bytesLess,Be,decide_eq_true_eq,A1,beq_iff_eq]at*
  rcases h1 with h1|⟨rfl,h1⟩
  .grind
  .rcases h2 with h2|⟨rfl,h2⟩
   .grind
   .exact .inr ⟨rfl,zv3 l m n h1 h2⟩
theorem zH3: ∀a b:List UInt8,Op.bytesLess a b=true∨a=b∨Op.bytesLess b a=true
 | [],[]=>sM
 | [],_::_=> .inl rfl
 |_::_,[]=> .inr (.inr rfl)
 |a::l,b::m=>by
  simp only[Op.bytesLess,Be,decide_eq_true_eq,A1,beq_iff_eq,List.cons.injEq]
  by_cases h:a<b
  .grind
  .by_cases h2:b<a
   .grind
   .have he:a=b:=(by grind)
    subst he
    rcases zH3 l m with q|rfl|q
    all_goals grind
theorem zX6: ∀(n i v:Nat) (rest:List UInt8),n<18446744073709551616->(n*128^i<18446744073709551616)->(0<i->0<n)->wX (varF n++rest) i v=(v+n*128^i,i+(varF n).length,0):=by
 intro n
 induction n using Nat.strongRecOn with
 |_ n ih=>
  intro i v rest hn hb h0
  have h9:i=9->n<=1:=(by grind)
  by_cases h:n<128
  .have e:(UInt8.ofNat n).toNat=n:=xV2 om
   rw[zT6 h]
   show wX (UInt8.ofNat n::rest) i v=_
   rw[wX,e,if_neg om,if_pos h,if_neg om,Cs h]
   rfl
  .have e:(UInt8.ofNat (n%128+128)).toNat=n%128+128:=xV2 om
   rw[yd7 h]
   show wX (UInt8.ofNat (n%128+128)::(varF (n/128)++rest)) i v=_
   rw[wX,e,if_neg om,if_neg om]
   have hdiv:n/128*128^(i+1)<=n*128^i:=by
    rw[Nat.pow_succ,Du (128^i) 128,<-Nat.mul_assoc]
    simp[Ah,Nat.div_mul_le_self]
   rw[ih (n/128) om (i+1) _ rest om om om]
   have e2:(n%128+128)%128=n%128:=om
   rw[e2,Aa]
   have e3:n%128*128^i+n/128*128^(i+1)=n*128^i:=by
    rw[Nat.pow_succ,Du (128^i) 128,<-Nat.mul_assoc,<-B2]
    grind
   grind
theorem xS8 (n:Int):zagF (zigF n)=n:=by
 unfold zagF zigF
 grind
theorem zO8 {v:GValue} (h:mayF v=true):(v.kind=0/\v.n=0/\v.s= [])∨(v.kind=1/\(v.n=0∨v.n=1)/\v.s= [])∨(v.kind=2/\v.s= [])∨(v.kind=3/\v.n=0/\v.s.length<=64):=by
 grind[mayF]
theorem yP6 {v:GValue} (h:mayF v=true) (ho:v.ok) (rest:List UInt8):zj7 (zb5 v++rest)=⟨v,(zb5 v).length,0⟩:=by
 have hp:=zO8 h
 have hi:=ho.n
 obtain⟨k,n,s⟩:=v
 simp only at hp hi
 unfold zb5
 rw[if_pos h]
 simp only
 rcases hp with ⟨rfl,rfl,rfl⟩|⟨rfl,hn,rfl⟩|⟨rfl,rfl⟩|⟨rfl,rfl,hl⟩
 .rfl
 .rcases hn with rfl|rfl<;>simp[zj7,zx3,zh2]
 .grind[zX6,zigF,zj7,zx3,xS8]
 .have ht:=zX6 s.length 0 0 (s++rest) om om (fun h=>om)
  have aa:zc9 (varF s.length++(s++rest))=(s,(varF s.length).length+s.length,0):=by
   unfold zc9
   rw[ht]
   have e1:(varF s.length++(s++rest)).take ((varF s.length).length+s.length)=varF s.length++s:=by
    grind
   simp_all[wP,if_neg];omega
  grind[zj7,zx3]
theorem yu9: ∀(l:List GValue),(∀v∈l,mayF v=true)->(∀v∈l,v.ok)->rowG l.length (l.flatMap zb5)=some l
 | [],_,_=>by rfl
 |v::l,h,ho=>by
  have h1:=yP6 (h v sM) (ho v sM) (l.flatMap zb5)
  have h2:=yu9 l (fun x hx=>h x (by simp[hx])) (fun x hx=>ho x (by simp[hx]))
  rw[Aa,rowG,C8,h1]
  simp[h2]
theorem zZ9: ∀(cs:List GCol) (vs:List GValue),vs.length=cs.length->zn6 cs vs=0-> ∀i (hi:i<cs.length) (hj:i<vs.length),mayF vs[i]=true/\(cs[i].null=false->vs[i].kind=cs[i].kind)
 | [],[],_,_,i,hi,_=>by grind
 |c::cs,v::vs,hl,h,i,hi,hj=>by
  unfold zn6 at h
  split at h
  .cases h
  .rename_i h1
   split at h
   .cases h
   .rename_i h2
    split at h
    .cases h
    .rename_i h3
     cases i with
     |zero=>
      refine⟨by simpa using h1,fun hn=> ?_⟩
      have hn:c.null=false:=hn
      have:v.kind≠0:=fun q=>h2 ⟨q,hn⟩
      exact Decidable.not_not.1 fun q=>h3 ⟨this,q⟩
     |succ i=>exact zZ9 cs vs (sU hl) h i (sU hi) (sU hj)
 | [],_::_,hl,_,_,_,_=>by grind
 |_::_,[],hl,_,_,_,_=>by grind
theorem xn2 {row:List GValue} (h:mayT cols row=0):zn6 cols row=0:=by
 grind[mayT]
theorem yL1 {row:List GValue} (h:mayT cols row=0): ∀v∈row,mayF v=true:=fun v hv=>by
 obtain⟨i,hi,rfl⟩:=List.mem_iff_getElem.1 hv
 exact(zZ9 cols row (zk6 h) (xn2 h) i (by grind[zk6]) hi).1
theorem xE2 {row:List GValue} (h:mayT cols row=0) (hL:LightR row):rowC cols.length (yH row)=(row,0):=by
 have hl:=zk6 h
 have aa:=hL.len
 have ht:=zX6 row.length 0 0 (row.flatMap zb5) om om (fun h=>om)
 have hd:yH row=varF row.length++row.flatMap zb5:=by grind[yH,zG5]
 unfold rowC
 rw[hd,ht]
 simp[<-hl,yu9 row (yL1 h) hL.ok,rowR]
end Go.Proofs.YtefbicjgbaaieaaGreat.R
namespace Go.Proofs.YtefbicjgbaaieaaGreat
open Go Go.Vx R Go.Proofs.Tryz
set_option maxRecDepth 100000
end Go.Proofs.YtefbicjgbaaieaaGreat
namespace Go.Vx
open Go
end Go.Vx
namespace Go.Proofs.YtefbicjgbaaieaaGreat
open Go Go.Vx R Go.Proofs.Tryz
set_option maxRecDepth 100000
end Go.Proofs.YtefbicjgbaaieaaGreat
namespace Go.Proofs.YtefbicjgbaaieaaGreat
open Go Go.Vx R Go.Proofs.Tryz
set_option maxRecDepth 100000
def zY5 (v:GValue) (C:GCol):Bool:=mayF v&&(v.kind==0||v.kind==C.kind)
def zn5 (cs:List GCol) (row:List GValue):Bool:=decide (row.length=cs.length)&&(row.zip cs).all fun p=>zY5 p.1 p.2
theorem yt9 {T:GTable} {row:List GValue} (h:zn5 T.cols row=true) (hv: ∀v∈row,v.ok):RowOk T row:=by
 unfold zn5 at h
 rw[A1,decide_eq_true_eq]at h
 refine⟨h.1,fun j C v hC hV=> ?_⟩
 have hz:(row.zip T.cols)[j]? =some (v,C):=by rw[List.getElem?_zip_eq_some];exact⟨hV,hC⟩
 have h2:=Aj.1 h.2 _ (B7 hz)
 unfold zY5 at h2
 simp only[A1,Be,beq_iff_eq]at h2
 have aa:=hv v (B7 hV)
 exact⟨h2.1,⟨aa.n.1,aa.n.2⟩,h2.2.elim .inr .inl⟩
def evR (T:GTable) (row:List GValue) (e:GExpr):GValue×Int:=if(zb3 T e).2≠0 then(zeroV,(zb3 T e).2)else if zn5 T.cols row=false then(zeroV,9)else evF T row e
theorem xw7 (e:GExpr):evR noT [] e=evN e:=rfl
section
variable {b:List V} {rows:List (List V)} {A:List Nat} {τ:St}
end
theorem wc4 {v:GValue} {k:Int} (h:VK v k):v.ok/\v.s.length<=500:=by
 have hm:=h.may
 have hn:=h.n
 unfold mayF at hm
 have:i64R v.kind/\v.s.length<=64:=by
  unfold i64R
  split at hm
  .rename_i q;rw[q];simp at hm;exact⟨dc,by rw[hm.2];decide⟩
  split at hm
  .rename_i q;rw[q];simp at hm;exact⟨dc,by rw[hm.2];decide⟩
  split at hm
  .rename_i q;rw[q];simp at hm;exact⟨dc,by rw[hm];decide⟩
  split at hm
  .rename_i q;rw[q];simp at hm;exact⟨dc,hm.2⟩
  .cases hm
 exact⟨⟨this.1,hn,by unfold maxLen;omega⟩,om⟩
theorem ye7: ∀(n:Nat) (q l:List GExpr),(∀e∈q,Good e)->(∀e∈l,Good e)-> ∀e∈bfs n q l,Good e
 |0,_,_,_,hl=>hl
 |n+1,[],_,_,hl=>by rw[bfs];exact hl
 |n+1,x::q,l,hq,hl=>by
  have hx:=hq x (Al ..)
  have aa: ∀e∈q,Good e:=fun e he=>hq e (Am _ he)
  rw[bfs]
  split
  .exact ye7 n _ _ (fun e he=>by
    rcases B5.1 he with he|he
    .exact aa e he
    .exact hx.sub e he) hl
  .exact ye7 n _ _ aa (fun e he=>by
    rcases B5.1 he with he|he
    .exact hl e he
    .rw[Cc]at he;subst he;exact hx)
theorem xG8 {st:GStmt} (h:Good st.where_):VOk st:=fun e he name s v ha=>by
 have hg:Good e:=by
  unfold zs9 at he
  split at he
  .exact ye7 4096 [st.where_] [] (fun e he=>by rw[Cc]at he;subst he;exact h) (fun e he=>by cases he) e he
  .cases he
 have aa: ∃a∈e.args,a.v=v:=by
  unfold zf7 at ha
  split at ha
  .rename_i a b heq ab
   rw[ab]
   split at ha
   .split at ha
    .cases ha;exact⟨a,sM,rfl⟩
    .cases ha
   .split at ha
    .cases ha;exact⟨b,sM,rfl⟩
    .cases ha
  .cases ha
 obtain⟨a,ad,rfl⟩:=aa
 exact(hg.sub a ad).v
def okP (r:Int) (e:GExpr):Bool:=match zf7 e [82]with|none=>true|some (s,v)=> !(s== [61]&&(v.kind==2&& !(v.n==r)))
theorem yy1: ∀(l:List GExpr) (rs:List Int),cutR l rs=rs.filter fun r=>l.all (okP r)
 | [],rs=>(D1.2 sM).symm
 |e::l,rs=>by
  have ih:=yy1 l
  have h:cutR (e::l) rs=cutR l (match zf7 e [82]with|none=>rs|some (s,v)=>if s= [61]/\v.kind=2 then zj5 v.n rs else rs):=rfl
  rw[h,ih]
  have h2:(match zf7 e [82]with|none=>rs|some (s,v)=>if s= [61]/\v.kind=2 then zj5 v.n rs else rs)=rs.filter (okP · e):=by
   unfold okP
   cases zf7 e [82]with
   |none=>exact(D1.2 sM).symm
   |some p=>
    obtain⟨s,v⟩:=p
    simp only
    by_cases q:s= [61]/\v.kind=2
    .rw[if_pos q]
     unfold zj5
     grind
    .rw[if_neg q]
     refine(D1.2 fun r _=> ?_).symm
     grind
  simp_all[Bool.and_comm]
def yl7 (tn:Nat) (row:List GValue):Int:=if tn=0 then(row.getD 0 zeroV).n else if tn=1 then -1 else 1
def keyS (tn:Nat) (T:GTable) (row:List GValue):Int×List UInt8×Int:=
 if mayT T.cols row≠0 then(0,[],mayT T.cols row)else if tn=0/\ ¬((row.getD 0 zeroV).n=0∨(row.getD 0 zeroV).n=1)then(0,[],19)else((wN tn (yl7 tn row)).1,zl6 3 tn (row.getD T.key.toNat zeroV),0)
end Go.Proofs.YtefbicjgbaaieaaGreat
namespace Go.Proofs.YtefbicjgbaaieaaGreat
open Go Go.Vx Go.Proofs.Tryz
set_option maxRecDepth 100000
variable {α:Type}
abbrev Pl:=Int×List UInt8
def plV (p:Pl):V:= .agg [.int .i64 p.1,.str p.2]
abbrev kPl:Kk:= .st [.i .i64,.s]
def kvE {α:Type} (g:α->V):List (Pl×α)->List V
 | []=> []
 |e::W=>plV e.1::g e.2::kvE g W
structure Mp (α:Type) where
 W:List (Pl×α)
 bs:List Nat
 clk:Nat
def Mp.ob (g:α->V) (m:Mp α):Ob:= .mp (kvE g m.W) m.bs m.clk
structure Mp.ok {α:Type} (m:Mp α):Prop where
 len:m.bs.length=m.W.length
 nd:m.bs.Nodup
 lt: ∀b∈m.bs,b<m.clk
 keys:(m.W.map (·.1)).Nodup
def mp0 (α:Type):Mp α:=⟨[],[],0⟩
theorem xA8 (α:Type):(mp0 α).ok:=⟨rfl,Cj,fun b hb=>(by cases hb),Cj⟩
def idxW {α:Type} (p:Pl):List (Pl×α)->Option (Nat×α)
 | []=>none
 |e::W=>if e.1=p then some (0,e.2)else(idxW p W).map fun q=>(q.1+1,q.2)
def Mp.at (m:Mp α) (p:Pl):Option (Nat×α):=idxW p m.W
def Mp.get (m:Mp α) (p:Pl):Option α:=(m.at p).map (·.2)
def Mp.put (m:Mp α) (p:Pl) (v:α):Mp α:=match m.at p with
 |some (i,_)=>⟨m.W.set i (p,v),m.bs,m.clk⟩
 |none=>⟨m.W++ [(p,v)],m.bs++ [m.clk],m.clk+1⟩
def Mp.del (m:Mp α) (p:Pl):Mp α:=match m.at p with
 |some (i,_)=>⟨m.W.eraseIdx i,m.bs.eraseIdx i,m.clk⟩
 |none=>m
theorem eqPl (p q:Pl):eqKk kPl (plV p) (plV q)=some (decide (p=q)):=by
 obtain⟨a,b⟩:=p
 obtain⟨c,d⟩:=q
 simp only[eqKk,plV,eqVs,eqPk,and_self,if_true,Ar,Bg,C9,Option.some.injEq]
 grind
theorem xU3 (p:Pl):zo9 kPl (plV p)=true:=by rfl
section
variable {α:Type} {g:α->V}
variable {m:Mp α}{p:Pl}{σ:St}{z:α}{i:Nat}{r:Int}{k:List UInt8}
theorem yy9 (p:Pl): ∀(W:List (Pl×α)) (i:Nat),zj8 kPl (plV p) (kvE g W) i=some ((idxW p W).map fun q=>(i+q.1,g q.2))
 | [],_=>rfl
 |e::W,i=>by
  rw[kvE,zj8,eqPl,idxW]
  by_cases h:e.1=p
  .grind
  .rw[if_neg h]
   have:decide (p=e.1)=false:=(by grind)
   rw[this]
   simp only
   rw[yy9 p W (i+1)]
   cases idxW p W<;>grind
theorem xc2 (m:Mp α) (p:Pl):zj8 kPl (plV p) (kvE g m.W) 0=some ((m.at p).map fun q=>(q.1,g q.2)):=by
 grind[yy9,Mp.at]
theorem zj1 {p:Pl} {i:Nat} {v:α}: ∀{W:List (Pl×α)},idxW p W=some (i,v)->W[i]? =some (p,v)
 | [],h=>by trivial
 |e::W,h=>by
  rw[idxW]at h
  by_cases q:e.1=p
  .grind
  .rw[if_neg q]at h
   simp only[Ao,Prod.mk.injEq]at h
   obtain⟨⟨j,u⟩,h1,rfl,rfl⟩:=h
   simpa using zj1 h1
theorem zL2 {p:Pl}: ∀{W:List (Pl×α)},idxW p W=none-> ∀e∈W,e.1≠p
 | [],_,e,he=>by cases he
 |e::W,h,x,hx=>by
  rw[idxW]at h
  by_cases q:e.1=p
  .grind
  .rw[if_neg q]at h
   simp only[Option.map_eq_none_iff]at h
   rcases Af.1 hx with rfl|hx
   .exact q
   .exact zL2 h x hx
theorem xc6 {p:Pl} {v:α}: ∀{W:List (Pl×α)},(W.map (·.1)).Nodup->(p,v)∈W-> ∃i,idxW p W=some (i,v)
 | [],_,h=>by cases h
 |e::W,hn,h=>by
  rw[Ai,Bw]at hn
  rw[idxW]
  rcases Af.1 h with rfl|h
  .simp
  .have:e.1≠p:=(by grind)
   obtain⟨i,hi⟩:=xc6 hn.2 h
   grind
theorem Mp.get_mem (hm:m.ok) {v:α}:m.get p=some v↔(p,v)∈m.W:=by
 constructor
 .intro h
  unfold Mp.get Mp.at at h
  rw[Ao]at h
  obtain⟨⟨i,u⟩,h1,rfl⟩:=h
  exact B7 (zj1 h1)
 .intro h
  obtain⟨i,hi⟩:=xc6 hm.keys h
  unfold Mp.get Mp.at
  grind
theorem yt7 (W:List (Pl×α)) (p:Pl) (v:α):kvE g W++ [plV p,g v]=kvE g (W++ [(p,v)]):=by
 induction W with
 |nil=>rfl
 |cons e W ih=>rw[kvE,Ax,Ax,ih];rfl
theorem xz9 (p:Pl) (v:α): ∀(W:List (Pl×α)) (i:Nat),zC3 (kvE g W) i (plV p) (g v)=kvE g (W.set i (p,v))
 | [],i=>by rfl
 |e::W,0=>by rfl
 |e::W,i+1=>by
  have ih:=xz9 p v W i
  unfold zC3 at ih⊢
  rw[show 2*(i+1)=2*i+1+1 by omega,kvE]
  simp only[Bs]
  rw[ih]
  rfl
theorem yU1 (v:α): ∀(W:List (Pl×α)) (i:Nat) (p:Pl) (u:α),W[i]? =some (p,u)->(kvE g W).set (2*i+1) (g v)=kvE g (W.set i (p,v))
 | [],i,_,_,h=>by rfl
 |e::W,0,p,u,h=>by grind[kvE]
 |e::W,i+1,p,u,h=>by
  have ih:=yU1 v W i p u (sU h)
  rw[show 2*(i+1)+1=2*i+1+1+1 by omega,kvE]
  simp only[Bs]
  rw[ih]
  rfl
theorem xz8: ∀(W:List (Pl×α)) (i:Nat),i<W.length->zY8 (kvE g W) i=kvE g (W.eraseIdx i)
 | [],i,h=>by grind
 |e::W,0,_=>by rfl
 |e::W,i+1,h=>by
  have ih:=xz8 W i (sU h)
  unfold zY8 at ih⊢
  rw[show 2*(i+1)=2*i+1+1 by omega,show 2*i+1+1+2=2*i+2+1+1 by omega,kvE]
  simp only[Cm,D0,Ax]
  rw[ih]
  rfl
theorem yc9 {z:V} {id:Nat} (hσ:σ[id]? =some (m.ob g)) (p:Pl) (ok:Bool):
  xV (some (kPl,z)) σ (.mp id) (plV p) ok= .ok (match m.get p with
   |some v=>if ok then .tup [g v,.bool true]else g v
   |none=>if ok then .tup [z,.bool false]else z):=by
 unfold xV
 simp only[xU3,if_true,hσ,Mp.ob,xc2]
 unfold Mp.get
 cases m.at p<;>rfl
def Mp.ent {α:Type} (m:Mp α) (p:Pl) (z:α):Mp α:=match m.at p with
 |some _=>m
 |none=>⟨m.W++ [(p,z)],m.bs++ [m.clk],m.clk+1⟩
def Mp.stamp {α:Type} (m:Mp α) (p:Pl):Nat:=match m.at p with
 |some (i,_)=>m.bs.getD i 0
 |none=>m.clk
theorem xv7 {id:Nat} (hm:m.ok) (hσ:σ[id]? =some (m.ob g)) (p:Pl):
  xY (some (kPl,g z)) σ (.mp id) (plV p)=(match m.at p with
   |some (_,v)=> .ok (.tup [g v,.int .i64 (m.stamp p:Int)])
   |none=> .st (.tup [g z,.int .i64 (m.stamp p:Int)]) (σ.set id ((m.ent p z).ob g))):=by
 unfold xY Mp.stamp Mp.ent
 simp only[xU3,if_true,hσ,Mp.ob,xc2]
 cases h:m.at p with
 |none=>grind[yt7]
 |some q=>
  have:=(A6.1 (zj1 (W:=m.W) (i:=q.1) (v:=q.2) h)).1
  have hb:m.bs[q.1]? =some (m.bs.getD q.1 0):=by
   rw[A8,A0 (by rw[hm.len];omega)]
   rfl
  grind
theorem yi4 {bs:List Nat} (hn:bs.Nodup) {b:Nat} (h:bs[i]? =some b):bs.findIdx? (fun(x:Nat)=>((x:Int)==(b:Int)))=some i:=by
 obtain⟨hi,rfl⟩:=A6.1 h
 rw[List.findIdx?_eq_some_iff_getElem]
 refine⟨hi,sM,fun j hj=> ?_⟩
 intro q
 rw[beq_iff_eq]at q
 grind[Dh]
theorem ys1 {id:Nat} (hm:m.ok) (hg: ∀v,za6 (g v)=true) (p:Pl) (hσ:σ[id]? =some ((m.ent p z).ob g)) (v:α):
  xL σ (.mp id) (.int .i64 (m.stamp p:Int)) (g v)= .st .u (σ.set id ((m.put p v).ob g)):=by
 unfold xL
 simp only[hg,if_true,hσ]
 unfold Mp.ob Mp.ent Mp.stamp Mp.put
 cases h:m.at p with
 |none=>
  have hf:(m.bs++ [m.clk]).findIdx? (fun(b:Nat)=>((b:Int)==(m.clk:Int)))=some m.W.length:=by
   refine yi4 ?_ ?_
   .rw[E2]
    refine⟨hm.nd,sM,fun a ha b hb=> ?_⟩
    have:=hm.lt a ha
    grind
   .rw[<-hm.len];simp
  grind[yU1]
 |some q=>
  have h1:=zj1 (W:=m.W) (i:=q.1) (v:=q.2) h
  have hl:=(A6.1 h1).1
  have hb:m.bs[q.1]? =some (m.bs.getD q.1 0):=by
   rw[A8,A0 (by rw[hm.len];exact hl)]
   rfl
  simp only[yi4 hm.nd hb]
  grind[yU1]
theorem Mp.ent_ok (hm:m.ok) (p:Pl) (z:α):(m.ent p z).ok:=by
 unfold Mp.ent
 cases h:m.at p with
 |some q=>exact hm
 |none=>
  refine⟨by simp[hm.len], ?_,fun b hb=> ?_, ?_⟩
  .rw[E2]
   refine⟨hm.nd,sM,fun a ha b hb=> ?_⟩
   have:=hm.lt a ha
   grind
  .rcases B5.1 hb with hb|hb
   .have:=hm.lt b hb;grind
   grind
  .rw[Co,E2]
   refine⟨hm.keys,sM,fun a ha b hb=> ?_⟩
   obtain⟨e,he,rfl⟩:=Ad.1 ha
   simp at hb
   subst hb
   exact zL2 h e he
theorem Mp.put_ok (hm:m.ok) (p:Pl) (v:α):(m.put p v).ok:=by
 unfold Mp.put
 cases h:m.at p with
 |some q=>
  have h1:=zj1 (W:=m.W) (i:=q.1) (v:=q.2) h
  have:((m.W.set q.1 (p,v)).map (·.1))=m.W.map (·.1):=by
   rw[List.map_set]
   exact yI _ _ _ (by grind)
  exact⟨by simp[hm.len],hm.nd,hm.lt,by rw[this];exact hm.keys⟩
 |none=>
  have:=Mp.ent_ok hm p v
  unfold Mp.ent at this
  grind
theorem Mp.del_ok (hm:m.ok) (p:Pl):(m.del p).ok:=by
 unfold Mp.del
 cases h:m.at p with
 |some q=>
  refine⟨?_,List.Nodup.sublist (by grind) hm.nd,fun b hb=>hm.lt b (List.mem_of_mem_eraseIdx hb), ?_⟩
  .simp only[List.length_eraseIdx,hm.len]
  .exact List.Nodup.sublist (by grind) hm.keys
 |none=>exact hm
theorem Mp.ent_some {q:Nat×α} (h:m.at p=some q):m.ent p z=m:=by grind[Mp.ent]
theorem zy9 {p:Pl} {v:α}: ∀{W:List (Pl×α)},idxW p W=none->idxW p (W++ [(p,v)])=some (W.length,v)
 | [],_=>by simp[idxW]
 |e::W,h=>by
  rw[idxW]at h
  by_cases q:e.1=p
  .grind
  .rw[if_neg q,Option.map_eq_none_iff]at h
   rw[Ax,idxW,if_neg q,zy9 h]
   rfl
theorem Mp.ent_get (h:m.at p=none):(m.ent p z).get p=some z:=by
 unfold Mp.get Mp.at Mp.ent
 rw[h]
 simp only
 unfold Mp.at at h
 rw[zy9 h];rfl
theorem Mp.get_none (h:m.at p=none):m.get p=none:=by unfold Mp.get;grind
theorem Mp.get_some {v:α} (h:m.at p=some (i,v)):m.get p=some v:=by unfold Mp.get;grind
theorem xv6 {md:Option (Kk×V)} (hz:md=some (kPl,g z)) (h:m.at p=none):xV md [(m.ent p z).ob g] (.mp 0) (plV p) false=xV md [m.ob g] (.mp 0) (plV p) false:=by
 subst hz
 rw[yc9 (m:=m.ent p z) rfl,yc9 (m:=m) rfl,Mp.ent_get h,Mp.get_none h]
 rfl
theorem yI9 {p:Pl} {v u:α}: ∀{W:List (Pl×α)} {i:Nat},idxW p W=some (i,u)->idxW p (W.set i (p,v))=some (i,v)
 | [],_,h=>by trivial
 |e::W,i,h=>by
  rw[idxW]at h
  by_cases q:e.1=p
  .rw[if_pos q]at h
   simp only[Option.some.injEq,Prod.mk.injEq]at h
   obtain⟨rfl,rfl⟩:=h
   rw[Cr,idxW,if_pos rfl]
  .rw[if_neg q,Ao]at h
   obtain⟨⟨j,w⟩,h1,h2⟩:=h
   simp only[Prod.mk.injEq]at h2
   obtain⟨rfl,rfl⟩:=h2
   rw[Bs,idxW,if_neg q,yI9 h1]
   rfl
theorem Mp.put_at (m:Mp α) (p:Pl) (v:α): ∃i,idxW p (m.put p v).W=some (i,v):=by
 unfold Mp.put
 cases h:m.at p with
 |none=>exact⟨_,zy9 h⟩
 |some q=>exact⟨q.1,yI9 (u:=q.2) h⟩
theorem zb8 {W:List (Pl×α)}:zj8 (.st [.i .i64,.s]) (.agg [.int .i64 r,.str k]) (kvE g W) 0=some ((idxW (r,k) W).map fun q=>(q.1,g q.2)):=by
 show zj8 kPl (plV (r,k)) (kvE g W) 0=_
 simp[yy9]
theorem yH5 {id:Nat} (hm:m.ok) (hσ:σ[id]? =some (m.ob g)) (h:m.at p=none):
  xY (some (kPl,g z)) σ (.mp id) (plV p)= .st (.tup [g z,.int .i64 (m.stamp p:Int)]) (σ.set id ((m.ent p z).ob g)):=by
 have:=xv7 hm (z:=z) hσ p
 grind
theorem xv5 {id:Nat} (hm:m.ok) {v:α} (hσ:σ[id]? =some (m.ob g)) (h:m.at p=some (i,v)):
  xY (some (kPl,g z)) σ (.mp id) (plV p)= .ok (.tup [g v,.int .i64 (m.stamp p:Int)]):=by
 have:=xv7 hm (z:=z) hσ p
 grind
theorem yr6 {id:Nat} {m:Mp Int} (hm:m.ok) (h:m.at (r,k)=none) (hσ:σ[id]? =some (m.ob (V.int .i64))):
  xY (some (.st [.i .i64,.s],.int .i64 0)) σ (.mp id) (.agg [.int .i64 r,.str k])= .st (.tup [.int .i64 0,.int .i64 (m.stamp (r,k):Int)]) (σ.set id ((m.ent (r,k) 0).ob (V.int .i64))):=yH5 (g:=V.int .i64) hm (z:=0) hσ h
theorem yr5 {id:Nat} {m:Mp Int} {v:Int} (hm:m.ok) (h:m.at (r,k)=some (i,v)) (hσ:σ[id]? =some (m.ob (V.int .i64))):
  xY (some (.st [.i .i64,.s],.int .i64 0)) σ (.mp id) (.agg [.int .i64 r,.str k])= .ok (.tup [.int .i64 v,.int .i64 (m.stamp (r,k):Int)]):=xv5 (g:=V.int .i64) hm (z:=0) hσ h
theorem zK9 {id:Nat} {m:Mp (List UInt8)} (hm:m.ok) (h:m.at (r,k)=none) (hσ:σ[id]? =some (m.ob V.str)):
  xY (some (.st [.i .i64,.s],.str [])) σ (.mp id) (.agg [.int .i64 r,.str k])= .st (.tup [.str [],.int .i64 (m.stamp (r,k):Int)]) (σ.set id ((m.ent (r,k) []).ob V.str)):=yH5 (g:=V.str) hm (z:= []) hσ h
theorem zZ1 {id:Nat} {m:Mp Int} {v:Int} (hm:m.ok) (hσ:σ[id]? =some ((m.ent p 0).ob (V.int .i64))):
  xL σ (.mp id) (.int .i64 (m.stamp p:Int)) (.int .i64 v)= .st .u (σ.set id ((m.put p v).ob (V.int .i64))):=ys1 (g:=V.int .i64) hm (fun _=>rfl) p hσ v
theorem zy2 {id:Nat} {m:Mp (List UInt8)} {v:List UInt8} (hm:m.ok) (hσ:σ[id]? =some ((m.ent p []).ob V.str)):
  xL σ (.mp id) (.int .i64 (m.stamp p:Int)) (.str v)= .st .u (σ.set id ((m.put p v).ob V.str)):=ys1 (g:=V.str) hm (fun _=>rfl) p hσ v
theorem yy6 {id:Nat} {m:Mp Int} {q:Nat×Int} {v:Int} (hm:m.ok) (h:m.at p=some q) (hσ:σ[id]? =some (m.ob (V.int .i64))):
  xL σ (.mp id) (.int .i64 (m.stamp p:Int)) (.int .i64 v)= .st .u (σ.set id ((m.put p v).ob (V.int .i64))):=(by grind[zZ1,Mp.ent_some])
end
end Go.Proofs.YtefbicjgbaaieaaGreat
namespace Go.Proofs.YtefbicjgbaaieaaGreat
open Go Go.Vx R Go.Proofs.Tryz
set_option maxRecDepth 100000
structure Ln where
 r:Int
 k:List UInt8
 v:List GValue
variable {b:Mp (List UInt8)}{p:Pl}
@[go_sem] def Ln.row (x:Ln):List V:= [.int .i64 x.r,.str x.k,.sl .ro (x.v.map GValue.row)]
def Ln.at (x:Ln):Pl:=(x.r,x.k)
def xW (a b:Pl):Bool:=decide (a.1<b.1)||(decide (a.1=b.1)&&Op.bytesLess a.2 b.2)
theorem zB5 (a:Pl):xW a a=false:=by simp[xW,zm4]
theorem zI6 {a b c:Pl} (h:xW a b=true) (g:xW b c=true):xW a c=true:=by
 simp only[xW,Be,A1,decide_eq_true_eq]at h g⊢
 rcases h with h|⟨h,h'⟩<;>rcases g with g|⟨g,g'⟩
 .exact .inl om
 .exact .inl om
 .exact .inl om
 .exact .inr ⟨om,zv3 _ _ _ h' g'⟩
theorem zB6 (a b:Pl):xW a b=true∨a=b∨xW b a=true:=by
 simp only[xW,Be,A1,decide_eq_true_eq]
 rcases Int.lt_trichotomy a.1 b.1 with h|h|h
 .exact .inl (.inl h)
 .rcases zH3 a.2 b.2 with g|g|g
  .exact .inl (.inr ⟨h,g⟩)
  .exact .inr (.inl (Prod.ext h g))
  .exact .inr (.inr (.inr ⟨h.symm,g⟩))
 .exact .inr (.inr (.inl h))
theorem zO7 {a b:Pl} (h:xW a b=true):xW b a=false:=by
 cases q:xW b a
 .rfl
 .have:=zI6 h q;rw[zB5]at this;cases this
def Rise (l:List Pl):Prop:=l.Pairwise fun a b=>xW a b=true
def zU3 (l:List Ln) (x:Ln):List Ln:=l.takeWhile (fun y=>xW y.at x.at)++x::l.dropWhile (fun y=>xW y.at x.at)
def atF (l:List Ln) (p:Pl):Bool:=l.any fun x=>x.at==p
def zm5 (t:Int) (st:GStmt) (x:Ln):Bool:=
 (za7 t st).any (fun g=>(wN t g).1==x.r)&&(!Op.bytesLess x.k (zi8 tabsS t st).1&&Op.bytesLess x.k (zi8 tabsS t st).2)
def zo6 (T:GTable) (st:GStmt):List Ln->List Ln->List Ln×Int
 |acc,[]=>(acc,0)
 |acc,x::l=>if(evR T x.v st.where_).2≠0 then([],(evR T x.v st.where_).2)else zo6 T st (if zN9 (evR T x.v st.where_).1=true then acc++ [x]else acc) l
def metF (t:Int) (T:GTable) (st:GStmt) (l:List Ln):List Ln×Int:=
 if st.filtered=true then zo6 T st [] (l.filter (zm5 t st))else(l.filter (zm5 t st),0)
def evsX (T:GTable) (row:List GValue):List GExpr->List GValue->List GValue×Int
 | [],acc=>(acc,0)
 |e::l,acc=>if(evR T row e).2≠0 then([],(evR T row e).2)else evsX T row l (acc++ [(evR T row e).1])
def insF (t:Nat) (T:GTable):List (List GExpr)->List Ln->List Ln×Int
 | [],l=>(l,0)
 |r::rs,l=>
  if(evsX noT [] r []).2≠0 then([],(evsX noT [] r []).2)
  else if(keyS t T (evsX noT [] r []).1).2.2≠0 then([],(keyS t T (evsX noT [] r []).1).2.2)
  else if atF l ((keyS t T (evsX noT [] r []).1).1,(keyS t T (evsX noT [] r []).1).2.1)=true then([],18)
  else insF t T rs (zU3 l ⟨(keyS t T (evsX noT [] r []).1).1,(keyS t T (evsX noT [] r []).1).2.1,(evsX noT [] r []).1⟩)
def setF (T:GTable) (old:List GValue):List GAssign->List GValue->List GValue×Int
 | [],row=>(row,0)
 |x::l,row=>if(evR T old x.e).2≠0 then([],(evR T old x.e).2)else setF T old l (row.set (colF T x.name).toNat (evR T old x.e).1)
def putF (l:List Ln) (p:Pl) (row:List GValue):List Ln:=l.map fun y=>if y.at=p then⟨y.r,y.k,row⟩else y
def updF (T:GTable) (sets:List GAssign):List Ln->List Ln->List Ln×Int
 | [],l=>(l,0)
 |x::m,l=>
  if(setF T x.v sets x.v).2≠0 then([],(setF T x.v sets x.v).2)
  else if mayT T.cols (setF T x.v sets x.v).1≠0 then([],mayT T.cols (setF T x.v sets x.v).1)
  else updF T sets m (putF l x.at (setF T x.v sets x.v).1)
def delF:List Ln->List Ln->List Ln
 | [],l=>l
 |x::m,l=>delF m (l.filter fun y=> !decide (y.at=x.at))
def zs7 (items:List GItem):Bool:=items.any fun x=>x.kind==3||x.kind==4
def sumF (T:GTable) (e:GExpr):List Ln->GValue->GValue×Int
 | [],acc=>(acc,0)
 |x::l,acc=>
  if(evR T x.v e).2≠0 then(zeroV,(evR T x.v e).2)
  else if(evR T x.v e).1.kind=0 then sumF T e l acc
  else if(rngF (acc.n+(evR T x.v e).1.n)).2≠0 then(zeroV,(rngF (acc.n+(evR T x.v e).1.n)).2)
  else sumF T e l ⟨2,(rngF (acc.n+(evR T x.v e).1.n)).1,[]⟩
def zt3 (T:GTable) (l:List Ln):List GItem->List GValue->List GValue×Int
 | [],acc=>(acc,0)
 |x::xs,acc=>
  if x.kind=4 then(if(sumF T x.e l zeroV).2≠0 then([],(sumF T x.e l zeroV).2)else zt3 T l xs (acc++ [(sumF T x.e l zeroV).1]))
  else zt3 T l xs (acc++ [⟨2,l.length,[]⟩])
def insB (gt:Ln->Bool) (out:List Ln) (x:Ln):List Ln:=(out.reverse.dropWhile gt).reverse++x::(out.reverse.takeWhile gt).reverse
def cmpC (c:Nat) (down:Bool) (x y:Ln):Int:=if down=true then -(cmpV (x.v.getD c zeroV) (y.v.getD c zeroV))else cmpV (x.v.getD c zeroV) (y.v.getD c zeroV)
def zo2 (c:Nat) (down:Bool) (l:List Ln):List Ln:=l.foldl (fun out x=>insB (fun y=>decide (0<cmpC c down y x)) out x) []
def limF (limit:Int) (l:List Ln):List Ln:=if 0<=limit then l.take limit.toNat else l
def zw8 (T:GTable) (items:List GItem):List Ln->List (List GValue)->List (List GValue)×Int
 | [],acc=>(acc,0)
 |x::l,acc=>
  if(items.head?.map (·.kind))=some 1 then zw8 T items l (acc++ [x.v])
  else if(evsX T x.v (items.map (·.e)) []).2≠0 then([],(evsX T x.v (items.map (·.e)) []).2)
  else zw8 T items l (acc++ [(evsX T x.v (items.map (·.e)) []).1])
structure Ot where
 count:Int
 rows:List (List GValue)
def Ot.row (x:Ot):List V:= [.sl .ro (x.rows.map fun r=> [.sl .ro (r.map GValue.row)]),.int .i64 x.count]
def selF (T:GTable) (st:GStmt) (l:List Ln):Ot×Int:=
 if zs7 st.items=true then(if(zt3 T l st.items []).2≠0 then(⟨0,[]⟩,(zt3 T l st.items []).2)else(⟨0,[(zt3 T l st.items []).1]⟩,0))
 else
  let m:=limF st.limit (if 0<=colF T st.order then zo2 (colF T st.order).toNat st.down l else l)
  if(zw8 T st.items m []).2≠0 then(⟨0,[]⟩,(zw8 T st.items m []).2)else(⟨0,(zw8 T st.items m []).1⟩,0)
def doS (st:GStmt) (l:List Ln):Ot×List Ln×Int:=
 let t:=(zc6 st.table).toNat
 let T:=tabsS.getD t noT
 if st.kind=2 then(if(insF t T st.rows l).2≠0 then(⟨0,[]⟩,[],(insF t T st.rows l).2)else(⟨st.rows.length,[]⟩,(insF t T st.rows l).1,0))
 else if(metF t T st l).2≠0 then(⟨0,[]⟩,[],(metF t T st l).2)
 else if st.kind=1 then((selF T st (metF t T st l).1).1,l,(selF T st (metF t T st l).1).2)
 else if st.kind=3 then
  (if(updF T st.sets (metF t T st l).1 l).2≠0 then(⟨0,[]⟩,[],(updF T st.sets (metF t T st l).1 l).2)else(⟨(metF t T st l).1.length,[]⟩,(updF T st.sets (metF t T st l).1 l).1,0))
 else(⟨(metF t T st l).1.length,[]⟩,delF (metF t T st l).1 l,0)
def doL:List GStmt->Nat->List Ot->List Ln->(Int×Int×List Ot)×List Ln
 | [],_,acc,l=>((0,0,acc),l)
 |x::ss,i,acc,l=>if(doS x l).2.2≠0 then(((doS x l).2.2,(i:Int),[]),[])else doL ss (i+1) (acc++ [(doS x l).1]) (doS x l).2.1
def lotF (lot:GLot) (l:List Ln):(Int×Int×List Ot)×List Ln:=
 if(zp0 lot).2≠0 then(((zp0 lot).2,(zp0 lot).1,[]),l)else if(doL lot.stmts 0 [] l).1.1≠0 then((doL lot.stmts 0 [] l).1,l)else doL lot.stmts 0 [] l
structure Wr where
 p:Pl
 drop:Bool
 data:List UInt8
def insW (l:List Wr) (w:Wr):List Wr:=l.takeWhile (fun y=>xW y.p w.p)++w::l.dropWhile (fun y=>xW y.p w.p)
def chgF (was now:List Ln):List Wr:=
 (now.filter fun x=> !(was.any fun y=>decide (y.at=x.at)&&decide (yH y.v=yH x.v))).foldl (fun l x=>insW l ⟨x.at,false,yH x.v⟩)
  ((was.filter fun x=> !atF now x.at).foldl (fun l x=>insW l ⟨x.at,true,[]⟩) [])
theorem zB7 {cols:List GCol} {row:List GValue} (hc:cols.length<=20) (hv: ∀v∈row,v.ok) (h:mayT cols row=0):LightR row:=by
 have hl:=zk6 h
 refine⟨om,fun v aa=> ?_,hv⟩
 rcases zO8 (yL1 h v aa)with ⟨_,_,h3⟩|⟨_,_,h3⟩|⟨_,h3⟩|⟨_,_,h3⟩
 .rw[h3];decide
 .rw[h3];decide
 .rw[h3];decide
 .omega
theorem xm1 (tn:Nat) (T:GTable) (hT:tabsS[tn]? =some T) (row:List GValue):keyR 3 tn T row (wN tn)=keyS tn T row:=by
 unfold keyR keyS
 by_cases h:mayT T.cols row≠0
 .rw[if_pos h,if_pos h]
 .rw[if_neg h,if_neg h]
  have hl:=zk6 (Classical.not_not.1 h)
  have e0:row.headD v0=row.getD 0 zeroV:=by cases row<;>rfl
  rw[e0]
  have ev:v0=zeroV:=rfl
  rw[ev]
  obtain⟨aa,ab⟩:=A6.1 hT
  have h3:tn<3:=aa
  unfold yl7 wN
  generalize row.getD 0 zeroV=x
  match tn,h3 with
  |0,_=>
   have hp:T.place=0:=by cases hT;decide
   simp only[hp,if_true,true_and]
   by_cases q0:x.n=0
   .simp[q0,show min (max (0:Int) (-1)) 4=0 by decide]
   .by_cases q1:x.n=1
    .simp[q1,show min (max (1:Int) (-1)) 4=1 by decide]
    .have n0: ¬min (max x.n (-1)) 4=0:=om
     have n1: ¬min (max x.n (-1)) 4=1:=om
     simp[q0,q1,n0,n1]
  |1,_=>
   have hp: ¬T.place=0:=by cases hT;decide
   simp
  |2,_=>
   have hp: ¬T.place=0:=by cases hT;decide
   simp
theorem yv2 (tn:Nat) (T:GTable) (hT:tabsS[tn]? =some T) (row:List GValue) (hr:row.length<=maxLen) (hv: ∀v∈row,v.ok):Pure prog 88 [schR tabsS,.int .i64 tn,.sl .ro (row.map GValue.row)] (keyV (keyS tn T row)):=by
 obtain⟨aa,ab⟩:=A6.1 hT
 have hk:=(by decide: ∀T∈tabsS,0<=T.key/\T.key<T.cols.length/\T.cols.length<=20) T (ab▸Ab aa)
 rw[<-xm1 tn T hT row]
 exact xr9 wF tabsS tn aa T ab row hr (zB7 hk.2.2 hv) dc ⟨hk.1,hk.2.1⟩ (wN tn) fun r h1 h2 h3=>by
  have ad:tn<3:=aa
  exact yF0 tn r om om
def runB:Ob:= .box [.sl .ro wF,.sl .ro (tabsS.map GTable.row),.mp 0,.mp 1,.mp 2]
def runS (a b:Mp (List UInt8)) (c:Mp Int):St:= [a.ob .str,b.ob .str,c.ob (V.int .i64),runB]
theorem xU4 {α:Type} {g:α->V} (hg: ∀v,ltA 0 (g v)=true) (n:Nat): ∀W:List (Pl×α),(kvE g W).all (ltA n)=true
 | []=>rfl
 |e::W=>by
  rw[kvE,Ac,Ac,xU4 hg n W,yK4 (A3 _) (hg e.2)]
  rfl
theorem xU6 {α:Type} {g:α->V} (hg: ∀v,ltA 0 (g v)=true) (n:Nat) (m:Mp α):ltOb n (m.ob g)=true:=xU4 hg n m.W
theorem xS (n:Nat) (h:3<=n) (a b:Mp (List UInt8)) (c:Mp Int):(runS a b c).all (ltOb n)=true:=by
 have h0:decide (0<n)=true:=decide_eq_true om
 have h1:decide (1<n)=true:=decide_eq_true om
 have h2:decide (2<n)=true:=decide_eq_true om
 simp only[runS,Ac,Cb,C9,xU6 (g:=V.str) (fun _=>rfl),xU6 (g:=V.int .i64) (fun _=>rfl),Au]
 simp[runB,ltOb,ltC,ltK,h0,h1,h2]
def cntP (c:Mp Int) (p:Pl):Int:=(c.get p).getD 0
def zr4 (rng:Int) (key data:List UInt8):Bool:=
 decide ((ofS rng).2.2=0)&&(decide ((rowF tabsS (ofS rng).1 data).2=0)&&decide (keyS (ofS rng).1.toNat (tabsS.getD (ofS rng).1.toNat noT) (rowF tabsS (ofS rng).1 data).1=(rng,key,0)))
def tkS (m:Mp (List UInt8)×Mp (List UInt8)×Mp Int):St:=runS m.1 m.2.1 m.2.2
abbrev M3:=Mp (List UInt8)×Mp (List UInt8)×Mp Int
def ya4 (p:Pl) (data:List UInt8) (m:M3):M3:=
 if cntP m.2.2 p=0/\zr4 p.1 p.2 data=true then(m.1.put p data,m.2.1.put p data,m.2.2.put p (cntP m.2.2 p+1))else(m.1,m.2.1,m.2.2.put p (cntP m.2.2 p+1))
theorem xI6 {u:Nat} (h:u<18446744073709551616): -9223372036854775808<=zagF u/\zagF u<=9223372036854775807:=by
 unfold zagF;split<;>omega
theorem ya8:(v0:GValue).ok:=⟨dc,dc,dc⟩
theorem mkOk {k n:Int} {s:List UInt8} (h1: -9223372036854775808<=k/\k<=9223372036854775807) (h2: -9223372036854775808<=n/\n<=9223372036854775807) (h3:s.length<=maxLen):(GValue.mk k n s).ok:=⟨h1,h2,h3⟩
theorem xq6: ∀b:List UInt8,(zj7 b).v.ok
 | []=>ya8
 |c::rest=>by
  rw[zj7]
  unfold zx3
  split
  .exact ya8
  .split
   .unfold zh2
    split
    .exact ya8
    .split
     .exact ya8
     .have:=((c::rest).getD 1 0).toNat_lt
      exact mkOk (k:=1) (n:=((((c::rest).getD 1 0).toNat:Nat):Int)) (s:= []) dc ⟨om,om⟩ dc
   .split
    .split
     .exact ya8
     .exact mkOk (k:=2) (s:= []) dc (xI6 (zT2 rest 0 0 dc dc)) dc
    .split
     .split
      .exact ya8
      .split
       .exact ya8
       .rename_i h
        exact mkOk (k:=3) (n:=0) dc dc (by unfold maxLen;omega)
     .exact ya8
theorem xg8: ∀(n:Nat) (b:List UInt8) (l:List GValue),rowG n b=some l->l.length=n/\ ∀v∈l,v.ok
 |0,b,l,h=>by
  rw[rowG]at h
  split at h
  .cases h;exact⟨rfl,fun v hv=>by cases hv⟩
  .cases h
 |n+1,b,l,h=>by
  rw[rowG]at h
  split at h
  .rw[Ao]at h
   obtain⟨l',h1,rfl⟩:=h
   obtain⟨h2,h3⟩:=xg8 n _ l' h1
   refine⟨by simp[h2],fun v hv=> ?_⟩
   rcases Af.1 hv with rfl|hv
   .exact xq6 b
   .exact h3 v hv
  .cases h
theorem xg7 (t:Nat) (data:List UInt8):(rowF tabsS t data).1.length<=maxLen/\ ∀v∈(rowF tabsS t data).1,v.ok:=by
 have h0:([]:List GValue).length<=maxLen/\ ∀v∈([]:List GValue),v.ok:=⟨A3 _,fun v hv=>by cases hv⟩
 unfold rowF
 split
 .rename_i h
  have hc:=(by decide: ∀T∈tabsS,T.cols.length<=maxLen) (tabsS[(t:Int).toNat]'om) (Ab _)
  unfold R.rowC
  split
  .unfold rowR
   split
   .rename_i l hl
    obtain⟨h1,h2⟩:=xg8 _ _ l hl
    exact⟨by rw[h1];exact hc,h2⟩
   .exact h0
  .exact h0
 .exact h0
theorem wb6 (g:Nat) (hg:g<1000) (key data:List UInt8) (hd:data.length<=maxB) (a b:Mp (List UInt8)) (sn:Mp Int) (ha:a.ok) (aj:b.ok) (hs:sn.ok) (a8:sn.at (g,key)=none->a.at (g,key)=none/\b.at (g,key)=none) (aw: ∀i v,sn.at (g,key)=some (i,v)->1<=v/\v<=1000000):
  VCalls prog 41 [.ptr 3 0,.int .i64 g,.agg [.str key,.str data]] (runS a b sn) (fun r s=>r= .tup []/\s=tkS (ya4 (g,key) data (a,b,sn))):=by
 obtain⟨M,hM⟩:=eX (ya4 (g,key) data (a,b,sn))
 rw[hM]
 have ret: ∀(a' b':Mp (List UInt8)) (ak:Mp Int) (σl:St),M=(a',b',ak)->wret (some (.tup [])) 4 (fun r s=>r= .tup []/\s=tkS M) (a'.ob .str::b'.ob .str::ak.ob (V.int .i64):: .box [.sl .ro wF,.sl .ro (tabsS.map GTable.row),.mp 0,.mp 1,.mp 2]::σl):=fun a' b' ak σl h=>by
  subst h
  exact xM 4 rfl rfl (xS 4 dc a' b' ak) (A4 _) (zC rfl) ⟨rfl,rfl⟩
 have aA:=Of_w g hg
 refine iV 4 func41 ntmps41 results41 fun c hc hb=> ?_
 refine zA ?_
 simp[go_sem,runS,runB]
 refine pC aA ?_
 simp[go_sem,ofV]
 obtain⟨ob,aq⟩: ∃ob:Ob->R,ob=fun o=>xV (some (kPl,.int .i64 0)) [o] (.mp 0) (plV (g,key)) false:=⟨_,rfl⟩
 obtain⟨k1,af⟩:=eX (cntP sn (g,key))
 cases aa:sn.at (g,key)with
 |none=>
  have ab:=Mp.get_none aa
  have ag:k1=0:=by rw[<-af];unfold cntP;rw[ab];rfl
  subst ag
  refine yE0 [(5,1),(7,3)] ⟨0,6,[2],some (2,ob)⟩ sM kR kR ?_
  simp[go_sem]
  refine yo4 (kv:=plV (g,key)) (id:=2) (n0:=⟨0,6,[2],some (2,ob)⟩) sg (by simp[go_sem,plV]) Tryz.mapT125 aq rfl (Nat.lt_of_sub_eq_succ rfl) (yc9 (m:=sn) rfl (g,key) false) ?_
  simp[go_sem,ab]
  refine zo8 ?_ ?_
  .simp[go_sem,yr6 hs aa]
   refine⟨sM,fun _=> .inr ?_⟩
   exact Kp.of_ex (k:=⟨0,6,[2],some (2,ob)⟩) (σ:= [a.ob .str,b.ob .str,sn.ob (V.int .i64),runB,.box [.str key,.str data],.box [.int .i64 g,.str key]]) (id:=2) (o:=sn.ob (V.int .i64)) (o':=(sn.ent (g,key) 0).ob (V.int .i64)) rfl rfl (fun q hq _=>by cases hq;rw[aq];first|done|exact xv6 rfl aa)
  simp[go_sem,yr6 hs aa,zZ1 hs]
  obtain⟨i1,ar⟩:=Mp.put_at sn (g,key) 1
  by_cases he:(ofS g).2.2=0
  rotate_left
  .have ad:((ofS g).2.2 !=0)=true:=sU he
   refine xA [] 6 sM kR kR ?_
   simp[go_sem,ad]
   exact ret a b _ _ (by rw[<-hM];unfold ya4 zr4;simp[af,he])
  have ad:((ofS g).2.2 !=0)=false:=sU he
  have e1:(sn.put (g,key) 1).ob (V.int .i64)= .mp (kvE (V.int .i64) (sn.put (g,key) 1).W) (sn.put (g,key) 1).bs (sn.put (g,key) 1).clk:=rfl
  refine xA [] 6 sM kR kR ?_
  simp[go_sem,ad,e1,zb8,ar,zd8,ze5]
  rw[<-e1]
  obtain⟨ax,ay⟩:=a8 aa
  obtain⟨tn,T,az,hT⟩: ∃(tn:Nat) (T:GTable),(ofS g).1=(tn:Int)/\tabsS[tn]? =some T:=by
   unfold ofS at he⊢
   split at he<;>rename_i q0
   .rw[if_pos q0];exact⟨0,_,rfl,rfl⟩
   .rw[if_neg q0]
    split at he<;>rename_i q1
    .rw[if_pos q1];exact⟨0,_,rfl,rfl⟩
    .rw[if_neg q1]
     split at he<;>rename_i q2
     .rw[if_pos q2];exact⟨1,_,rfl,rfl⟩
     .rw[if_neg q2]
      split at he<;>rename_i q3
      .rw[if_pos q3];exact⟨2,_,rfl,rfl⟩
      .exact absurd he dc
  have aB:tabsS.getD tn noT=T:=by rw[A8,hT];rfl
  have an:=xT1 wF tabsS tn data hd dc
  have ah:=xg7 tn data
  obtain⟨rf,a1⟩:=eX (rowF tabsS tn data)
  rw[a1]at an ah
  have ao:=yv2 tn T hT rf.1 ah.1 ah.2
  obtain⟨ks,a6⟩:=eX (keyS tn T rf.1)
  rw[a6]at ao
  have aC:zr4 g key data=(decide (rf.2=0)&&decide (ks=(((g:Nat):Int),key,0))):=by
   unfold zr4
   rw[az,As,aB,a1,a6,he]
   simp
  have ae:M=if zr4 g key data=true then(a.put (g,key) data,b.put (g,key) data,sn.put (g,key) 1)else(a,b,sn.put (g,key) 1):=by
   rw[<-hM];unfold ya4;rw[af];simp
  rw[aC]at ae
  obtain⟨kr,kk,ke⟩:=ks
  refine zA ?_
  refine xA [(7,0)] 6 sM kR kR ?_
  simp[go_sem,az]
  refine pD an ?_
  simp[go_sem,rowV]
  by_cases r0:rf.2=0
  rotate_left
  .have au:(rf.2 !=0)=true:=sU r0
   simp[go_sem,au]
   exact ret a b _ _ (by rw[ae];simp[r0])
  have au:(rf.2 !=0)=false:=sU r0
  simp[go_sem,au]
  refine pC ao ?_
  simp[go_sem,keyV]
  by_cases k0:ke=0
  rotate_left
  .have ai:(ke==0)=false:=sU k0
   simp[go_sem,ai]
   exact ret a b _ _ (by rw[ae];simp[k0])
  have ai:(ke==0)=true:=sU k0
  by_cases k2:kr=((g:Nat):Int)
  rotate_left
  .have al:(kr==((g:Nat):Int))=false:=sU k2
   simp[go_sem,ai,al]
   exact ret a b _ _ (by rw[ae];simp[k2])
  have al:(kr==((g:Nat):Int))=true:=sU k2
  by_cases k3:kk=key
  rotate_left
  .have av:(kk==key)=false:=sU k3
   simp[go_sem,ai,al,av]
   exact ret a b _ _ (by rw[ae];simp[k3])
  have av:(kk==key)=true:=sU k3
  simp[go_sem,ai,al,av]
  refine yE0 [(14,3),(16,3),(17,3),(19,3)] ⟨0,6,[0,1],none⟩ sM kR kR ?_
  simp[go_sem]
  have keep: ∀(τ:St) (i:Nat) (o o':Ob),([0,1]:List Nat).contains i=true->τ[i]? =some o->Kp.of ⟨0,6,[0,1],none⟩ (τ.set i o')=Kp.of ⟨0,6,[0,1],none⟩ τ:=fun τ i o o' h1 h2=>Kp.of_ex (k:=⟨0,6,[0,1],none⟩) h1 h2 (fun p hp _=>by cases hp)
  refine zo8 ?_ ?_
  .simp[go_sem,zK9 ha ax]
   refine⟨sM,fun _=> .inr ?_⟩
   exact keep [a.ob .str,b.ob .str,(sn.put (g,key) 1).ob (V.int .i64),runB,.box [.str key,.str data],.box [.int .i64 g,.str key]] 0 _ ((a.ent (g,key) []).ob .str) rfl rfl
  simp[go_sem,zK9 ha ax]
  refine zD3 ?_ ?_
  .simp[go_sem,zy2 ha]
   refine⟨sM,fun _=> .inr ?_⟩
   exact keep [(a.ent (g,key) []).ob .str,b.ob .str,(sn.put (g,key) 1).ob (V.int .i64),runB,.box [.str key,.str data],.box [.int .i64 g,.str key]] 0 _ ((a.put (g,key) data).ob .str) rfl rfl
  simp[go_sem,zy2 ha]
  refine zo8 ?_ ?_
  .simp[go_sem,zK9 aj ay]
   refine⟨sM,fun _=> .inr ?_⟩
   exact keep [(a.put (g,key) data).ob .str,b.ob .str,(sn.put (g,key) 1).ob (V.int .i64),runB,.box [.str key,.str data],.box [.int .i64 g,.str key]] 1 _ ((b.ent (g,key) []).ob .str) rfl rfl
  simp[go_sem,zK9 aj ay]
  refine zD3 ?_ ?_
  .simp[go_sem,zy2 aj]
   refine⟨sM,fun _=> .inr ?_⟩
   exact keep [(a.put (g,key) data).ob .str,(b.ent (g,key) []).ob .str,(sn.put (g,key) 1).ob (V.int .i64),runB,.box [.str key,.str data],.box [.int .i64 g,.str key]] 1 _ ((b.put (g,key) data).ob .str) rfl rfl
  simp[go_sem,zy2 aj]
  exact ret (a.put (g,key) data) (b.put (g,key) data) _ _ (by rw[ae];simp[r0,k0,k2,k3])
 |some q=>
  obtain⟨i,v⟩:=q
  obtain⟨aE,aF⟩:=aw i v aa
  have ab:=Mp.get_some aa
  have ag:k1=v:=by rw[<-af];unfold cntP;rw[ab];rfl
  subst ag
  have aD:IntKind.i64.wrap (k1+1)=k1+1:=i64_id om om
  have a7:M=(a,b,sn.put (g,key) (k1+1)):=by
   rw[<-hM];unfold ya4;rw[af,if_neg (fun h=>om)]
  refine yE0 [(5,1),(7,3)] ⟨0,6,[2],some (2,ob)⟩ sM kR kR ?_
  simp[go_sem]
  refine yo4 (kv:=plV (g,key)) (id:=2) (n0:=⟨0,6,[2],some (2,ob)⟩) sg (by simp[go_sem,plV]) Tryz.mapT125 aq rfl (Nat.lt_of_sub_eq_succ rfl) (yc9 (m:=sn) rfl (g,key) false) ?_
  simp[go_sem,ab,aD]
  refine zo8 ?_ ?_
  .simp[go_sem,yr5 hs aa]
   trivial
  simp[go_sem,yr5 hs aa,yy6 hs aa]
  obtain⟨i1,ar⟩:=Mp.put_at sn (g,key) (k1+1)
  by_cases he:(ofS g).2.2=0
  rotate_left
  .have ad:((ofS g).2.2 !=0)=true:=sU he
   refine xA [] 6 sM kR kR ?_
   simp[go_sem,ad]
   exact ret a b _ _ a7
  have ad:((ofS g).2.2 !=0)=false:=sU he
  have e1:(sn.put (g,key) (k1+1)).ob (V.int .i64)= .mp (kvE (V.int .i64) (sn.put (g,key) (k1+1)).W) (sn.put (g,key) (k1+1)).bs (sn.put (g,key) (k1+1)).clk:=rfl
  have h1:decide (k1+1>1)=true:=decide_eq_true om
  have aG:decide (1<k1+1)=true:=decide_eq_true om
  refine xA [] 6 sM kR kR ?_
  simp[go_sem,ad,e1,zb8,ar,zd8,ze5,h1]
  exact ret a b _ _ a7
structure LnOk (x:Ln):Prop where
 tab: ∃(tn:Nat) (T:GTable),(ofS x.r).1=(tn:Int)/\tabsS[tn]? =some T/\mayT T.cols x.v=0
 err:(ofS x.r).2.2=0
 ok: ∀v∈x.v,v.ok
structure NowOk (b:Mp (List UInt8)) (l:List Ln):Prop where
 ok:b.ok
 rise:Rise (l.map Ln.at)
 perm:b.W.Perm (l.map fun x=>(x.at,yH x.v))
 rows: ∀x∈l,LnOk x
theorem Rise.nodup {l:List Pl} (h:Rise l):l.Nodup:=h.imp (by grind[zB5])
theorem zg3 (l:List Ln) (x:Ln):(zU3 l x).Perm (x::l):=by
 grind[zU3,Ch,Di]
theorem atF_iff {l:List Ln}:atF l p=true↔p∈l.map Ln.at:=by
 grind[atF]
theorem zH5 {p:Pl}: ∀{l:List Ln},Rise (l.map Ln.at)->p∉l.map Ln.at-> ∀y∈l.dropWhile (fun y=>xW y.at p),xW p y.at=true
 | [],_,_,y,hy=>by simp_all
 |z::l,hr,hn,y,hy=>by
  unfold Rise at hr
  rw[Ai,Bv]at hr
  rw[List.dropWhile_cons]at hy
  by_cases q:xW z.at p=true
  .rw[if_pos q]at hy
   exact zH5 (l:=l) hr.2 (by grind) y hy
  .rw[if_neg q]at hy
   have hz:xW p z.at=true:=by
    grind[zB6]
   rcases Af.1 hy with rfl|hy
   .exact hz
   .exact zI6 hz (by grind)
theorem zA5 {α:Type} {p:α->Bool}: ∀{l:List α},∀y∈l.takeWhile p,p y=true
 | [],y,hy=>by simp_all
 |z::l,y,hy=>by
  rw[List.takeWhile_cons]at hy
  by_cases q:p z=true
  .rw[if_pos q]at hy
   rcases Af.1 hy with rfl|hy
   .exact q
   .exact zA5 (l:=l) y hy
  grind
theorem yZ2 {l:List Ln} {x:Ln} (h:Rise (l.map Ln.at)) (hn:atF l x.at=false):Rise ((zU3 l x).map Ln.at):=by
 have aa:x.at∉l.map Ln.at:=fun q=>by rw[atF_iff.2 q]at hn;cases hn
 have hd:=zH5 h aa
 have ht: ∀y∈l.takeWhile (fun y:Ln=>xW y.at x.at),xW y.at x.at=true:=zA5
 have hl:=Ch (p:=fun y:Ln=>xW y.at x.at) (l:=l)
 unfold zU3
 rw[<-hl]at h
 revert hd ht h
 generalize l.takeWhile (fun y:Ln=>xW y.at x.at)=t
 generalize l.dropWhile (fun y:Ln=>xW y.at x.at)=d
 intro h hd ht
 unfold Rise at h⊢
 rw[Co,Cv]at h
 rw[Co,Ai,Cv,Bv]
 grind
theorem NowOk.at_none {l:List Ln} (h:NowOk b l):b.at p=none↔atF l p=false:=by
 constructor
 .intro q
  cases r:atF l p with
  |false=>rfl
  |true=>
   obtain⟨x,hx,he⟩:=Ad.1 (atF_iff.1 r)
   have:(p,yH x.v)∈b.W:=h.perm.mem_iff.2 (by grind)
   exact absurd rfl (zL2 q _ this)
 .intro q
  cases r:b.at p with
  |none=>rfl
  |some w=>
   have hm:(p,w.2)∈b.W:=B7 (zj1 (W:=b.W) (i:=w.1) (v:=w.2) r)
   obtain⟨x,hx,he⟩:=Ad.1 (h.perm.mem_iff.1 hm)
   have:x.at=p:=(by grind)
   rw[atF_iff.2 (by grind)]at q
   cases q
theorem NowOk.ins {l:List Ln} (h:NowOk b l) {x:Ln} (hx:LnOk x) (hn:atF l x.at=false):NowOk (b.put x.at (yH x.v)) (zU3 l x):=by
 have hb:=h.at_none.2 hn
 refine⟨Mp.put_ok h.ok _ _,yZ2 h.rise hn, ?_,fun y hy=> ?_⟩
 .have e:(b.put x.at (yH x.v)).W=b.W++ [(x.at,yH x.v)]:=by grind[Mp.put]
  rw[e]
  have h1:=((zg3 l x).map fun x:Ln=>(x.at,yH x.v)).symm
  refine List.Perm.trans ?_ h1
  rw[Ai]
  exact(List.perm_append_singleton _ _).trans (h.perm.cons _)
 .rcases Af.1 ((zg3 l x).mem_iff.1 hy)with rfl|hy
  .exact hx
  .exact h.rows y hy
theorem yc3: ∀(r:List GExpr) (acc:List GValue),(∀e∈r,EOk e)->(∀v∈acc,v.ok)->(evsX noT [] r acc).2=0->(evsX noT [] r acc).1.length=acc.length+r.length/\ ∀v∈(evsX noT [] r acc).1,v.ok
 | [],acc,_,ha,_=>⟨rfl,ha⟩
 |e::r,acc,he,ha,h=>by
  rw[evsX]at h⊢
  by_cases q:(evR noT [] e).2=0
  .rw[if_neg (fun h=>h q)]at h⊢
   have hv:(evR noT [] e).1.ok:=by
    have:=xX5 (he e sM) (by rw[<-xw7];exact q)
    rw[xw7]
    exact(wc4 this).1
   have ih:=yc3 r (acc++ [(evR noT [] e).1]) (fun x hx=>he x (by simp[hx])) (fun v aa=>by
    rcases B5.1 aa with h|h
    .exact ha v h
    .simp at h;subst h;exact hv) h
   exact⟨by rw[ih.1];simp;omega,ih.2⟩
  .rw[if_pos q]at h;exact absurd h q
def out0:List V:= [.sl .full [],.int .i64 0]
def insR (a:Mp (List UInt8)) (sn:Mp Int) (cnt:Int) (M:List Ln×Int) (r:V) (s:St):Prop:=
 ∃(b':Mp (List UInt8)),s=runS a b' sn/\((M.2≠0/\r= .tup [.agg (Ot.row ⟨0,[]⟩),.int .i64 M.2])∨(M.2=0/\r= .tup [.agg (Ot.row ⟨cnt,[]⟩),.int .i64 0]/\NowOk b' M.1))
theorem xD3 {r:Int} {k d:List UInt8} (h:b.at (r,k)=none):Ob.mp (kvE V.str b.W++ [.agg [.int .i64 r,.str k],.str d]) (b.bs++ [b.clk]) (b.clk+1)=(b.put (r,k) d).ob V.str:=by
 unfold Mp.put Mp.ob
 rw[h]
 show _=Ob.mp (kvE V.str (b.W++ [((r,k),d)])) _ _
 rw[<-yt7]
 rfl
theorem yc7 (tn:Nat) (T:GTable) (hT:tabsS[tn]? =some T) (row:List GValue) (h:(keyS tn T row).2.2=0):mayT T.cols row=0/\(ofS (keyS tn T row).1).1=(tn:Int)/\(ofS (keyS tn T row).1).2.2=0:=by
 obtain⟨aa,_⟩:=A6.1 hT
 have h3:tn<3:=aa
 unfold keyS at h⊢
 by_cases h1:mayT T.cols row≠0
 .rw[if_pos h1]at h;exact absurd h h1
 .rw[if_neg h1]at h⊢
  refine⟨Classical.not_not.1 h1, ?_⟩
  unfold yl7
  generalize row.getD 0 zeroV=x at h⊢
  match tn,h3 with
  |0,_=>
   by_cases h2:x.n=0∨x.n=1
   .rw[if_neg (fun q=>q.2 h2)]
    rcases h2 with h2|h2
    .simp[wN,ofS,h2]
    .simp[wN,ofS,h2]
   .rw[if_pos ⟨rfl,h2⟩]at h;cases h
  |1,_=>simp[wN,ofS]
  |2,_=>simp[wN,ofS]
theorem yO0 (tn:Nat) (T:GTable) (hT:tabsS[tn]? =some T) (st:GStmt) (a1:SOk st) (a b:Mp (List UInt8)) (sn:Mp Int) (l:List Ln) (au:NowOk b l):
  VCalls prog 89 [.ptr 3 0,.int .i64 tn,.agg st.row] (runS a b sn) (insR a sn st.rows.length (insF tn T st.rows l)):=by
 obtain⟨R,hR⟩:=eX st.rows
 obtain⟨a6,av⟩:=a1.rows
 rw[hR]at a6 av⊢
 generalize hM:insF tn T R l=M
 have bad: ∀(b':Mp (List UInt8)) (e:Int) (σl:St),M.2=e->e≠0->wret (some (.tup [.agg [.sl .full [],.int .i64 0],.int .i64 e])) 4 (insR a sn R.length M) (a.ob .str::b'.ob .str::sn.ob (V.int .i64):: .box [.sl .ro wF,.sl .ro (tabsS.map GTable.row),.mp 0,.mp 1,.mp 2]::σl):=fun b' e σl h1 h2=>
  xM 4 (s:=runS a b' sn) (r:= .tup [.agg (Ot.row ⟨0,[]⟩),.int .i64 e]) rfl rfl (xS 4 dc a b' sn) (A4 _) (xU ⟨zd0 ⟨yX,zU rfl,tV⟩,za1 rfl,tV⟩) ⟨b',rfl,.inl ⟨by rw[h1];exact h2,by rw[h1]⟩⟩
 have an: ∀(b':Mp (List UInt8)) (n:Nat),6<=n->([a.ob .str,b'.ob .str,sn.ob (V.int .i64),.box [.sl .ro wF,.sl .ro (tabsS.map GTable.row),.mp 0,.mp 1,.mp 2],.box st.row,.box out0]:St).all (ltOb n)=true:=fun b' n hn=>by
  have h:=xS n om a b' sn
  simp only[runS,runB,Ac,Cb,C9]at h⊢
  rw[A1,A1,A1]at h⊢
  refine⟨h.1,h.2.1,h.2.2.1, ?_⟩
  rw[A1]
  exact⟨h.2.2.2,by simp[ltOb,ltC,ltK,GStmt.row,out0]⟩
 have aj: ∀(b':Mp (List UInt8)) (k:Nat),([a.ob .str,b'.ob .str,sn.ob (V.int .i64),.box [.sl .ro wF,.sl .ro (tabsS.map GTable.row),.mp 0,.mp 1,.mp 2],.box st.row,.box out0,.app k 3]:St).all (ltOb 7)=true:=fun b' k=>by
  have h:=an b' 7 dc
  simp only[Ac,Cb,C9]at h⊢
  rw[show ltOb 7 (.app k 3)=true from rfl,C9]
  exact h
 refine iV 4 func89 ntmps89 results89 fun c hc hb=> ?_
 refine zA ?_
 simp[go_sem,runS,runB,hR]
 refine zH (S:=Nat×Mp (List UInt8)×List Ln) [0,1,5,6,22,23,24] (fun u=> [.ptr 3 0,.int .i64 tn,.ptr 4 0,.ptr 5 0,.sl .ro (R.map fun(l:List GExpr)=> [V.sl .ro (l.map GExpr.row)]),.int .i64 R.length,.int .i64 u.1])
  (fun u=> [a.ob .str,u.2.1.ob .str,sn.ob (V.int .i64),.box [.sl .ro wF,.sl .ro (tabsS.map GTable.row),.mp 0,.mp 1,.mp 2],.box st.row,.box out0]) (fun u=>R.length - u.1)
  (fun u=>u.1<=R.length/\NowOk u.2.1 u.2.2/\insF tn T (R.drop u.1) u.2.2=M) hc hb (0,b,l) ⟨A3 _,au,hM⟩ ?_ ?_
 .exact at_n 6 (by simp[go_sem,hR,out0]) rfl (an b 6 dc) dc (zF sg rfl)
 rintro⟨i,b1,l1⟩ ⟨hi,af,aa⟩
 simp only at hi af aa
 by_cases q:i<R.length
 rotate_left
 .rw[A9 om,insF]at aa
  subst aa
  refine zA ?_
  simp[go_sem,q,hR,out0]
  exact xM 4 (s:=runS a b1 sn) (r:= .tup [.agg (Ot.row ⟨R.length,[]⟩),.int .i64 0]) rfl rfl (xS 4 dc a b1 sn) (A4 _) (xU ⟨zd0 ⟨yX,zU rfl,tV⟩,za1 rfl,tV⟩) ⟨b1,rfl,.inr ⟨rfl,rfl,af⟩⟩
 have ei:=zS q om
 obtain⟨x,hx⟩:=eX (R[i])
 obtain⟨aF,aw⟩:=av x (hx▸Ab q)
 have ax:=yc3 x [] aw (fun v hv=>by cases hv)
 rw[A5 q,hx,insF]at aa
 obtain⟨E,hE⟩:=eX (evsX noT [] x [])
 rw[hE]at aa ax
 refine zA ?_
 simp[go_sem,q,hx]
 refine zo5 10 3 dc sg ?_
 refine zH (S:=Nat×List GValue) [0,1,5,6,10,22,23,24,28,29,30] (fun u=> [.ptr 3 0,.int .i64 tn,.ptr 4 0,.ptr 5 0,.sl (.app 6) (u.2.map GValue.row),.sl .ro (R.map fun(l:List GExpr)=> [V.sl .ro (l.map GExpr.row)]),.int .i64 R.length,.int .i64 i,.sl .ro (x.map GExpr.row),.int .i64 x.length,.int .i64 u.1])
  (fun u=> [a.ob .str,b1.ob .str,sn.ob (V.int .i64),.box [.sl .ro wF,.sl .ro (tabsS.map GTable.row),.mp 0,.mp 1,.mp 2],.box st.row,.box out0,.app u.2.length 3]) (fun u=>x.length - u.1)
  (fun u=>u.1<=x.length/\u.2.length<=u.1/\evsX noT [] (x.drop u.1) u.2=E) hc hb (0,[]) ⟨A3 _,A4 _,hE⟩ ?_ ?_
 .exact at_n 7 (by simp[go_sem,out0]) rfl (aj b1 _) dc (zF sg rfl)
 rintro⟨j,acc⟩ ⟨hj,a7,ab⟩
 simp only at hj a7 ab
 by_cases qj:j<x.length
 .have ej:=zS qj om
  obtain⟨e,he⟩:=eX (x[j])
  have a8:=aw e (he▸Ab qj)
  rw[A5 qj,he,evsX,xw7]at ab
  have ag:=xJ0 e a8
  obtain⟨kv,aA⟩:=eX (evN e)
  rw[aA]at ab ag
  refine zA ?_
  simp[go_sem,qj,he]
  refine zM ag cB ⟨zv2 ⟨zU rfl,yX,zU rfl,zU rfl,zU rfl,yX,yX,yX,zU rfl,zU rfl,zU rfl,tV⟩,zL,zN sg (by rw[GExpr.row_eq];rfl)⟩ rfl ?_
  simp[go_sem,valP]
  by_cases q2:kv.2=0
  rotate_left
  .have ao:(kv.2 !=0)=true:=sU q2
   rw[if_pos q2]at ab
   subst ab
   simp only at aa
   rw[if_pos q2]at aa
   simp[go_sem,ao,out0]
   exact bad b1 kv.2 _ (by rw[<-aa]) q2
  have ao:(kv.2 !=0)=false:=sU q2
  rw[if_neg (fun h=>h q2)]at ab
  simp[go_sem,ao]
  refine zI ⟨om,zX rfl⟩ ?_
  simp[go_sem,ej]
  exact zG (j+1,acc++ [kv.1]) ⟨by show x.length - (j+1)<x.length - j;omega,⟨qj,by show(acc++ [kv.1]).length<=j+1;simp;omega,ab⟩,at_n 7 (by simp[go_sem,out0]) rfl (aj b1 _) dc (zF sg rfl)⟩
 rw[A9 om,evsX]at ab
 subst ab
 obtain⟨_,ai⟩:=ax rfl
 simp only at aa ai
 rw[if_neg (fun h=>h rfl)]at aa
 have ak:=yv2 tn T hT acc (by unfold maxLen;omega) ai
 have ah:=yc7 tn T hT acc
 obtain⟨⟨kr,kk,ke⟩,aB⟩: ∃ks,keyS tn T acc=ks:=⟨_,rfl⟩
 rw[aB]at aa ak ah
 simp only at aa ah
 refine zA ?_
 simp[go_sem,qj]
 refine pC ak ?_
 simp[go_sem,keyV]
 by_cases k0:ke=0
 rotate_left
 .have aq:(ke !=0)=true:=sU k0
  rw[if_pos k0]at aa
  simp[go_sem,aq,out0]
  exact bad b1 ke _ (by rw[<-aa]) k0
 have aq:(ke !=0)=false:=sU k0
 rw[if_neg (fun h=>h k0)]at aa
 obtain⟨al,aC,aD⟩:=ah k0
 have aE:=zB7 ((by decide: ∀T∈tabsS,T.cols.length<=20) T (B7 hT)) ai al
 have ar:=xr6 acc aE
 have eB:b1.ob .str= .mp (kvE .str b1.W) b1.bs b1.clk:=rfl
 simp[go_sem,aq]
 cases ae:b1.at (kr,kk)with
 |some w=>
  have hA:atF l1 (kr,kk)=true:=by
   cases r:atF l1 (kr,kk)with
   |true=>rfl
   |false=>rw[af.at_none.2 r]at ae;cases ae
  rw[if_pos hA]at aa
  have ad:idxW (kr,kk) b1.W=some w:=ae
  refine xA [] 8 sM kR kR ?_
  simp[go_sem,eB,zb8,ad,zd8,ze5,out0]
  rw[<-eB]
  exact bad b1 18 _ (by rw[<-aa]) dc
 |none=>
  have hA:=af.at_none.1 ae
  rw[if_neg (by rw[hA];decide)]at aa
  have ad:idxW (kr,kk) b1.W=none:=ae
  have ay:=xD3 (d:=yH acc) ae
  have az:=af.ins (x:=⟨kr,kk,acc⟩) ⟨⟨tn,T,aC,hT,al⟩,aD,ai⟩ hA
  refine xA [] 8 sM kR kR ?_
  simp[go_sem,eB,zb8,ad,zd8,ze5]
  refine zA ?_
  refine xA [(6,0)] 8 sM kR kR ?_
  simp[go_sem]
  refine pD ar ?_
  simp[go_sem,zb8,ad,zd8,ze5,ay,ei]
  exact zG (i+1,b1.put (kr,kk) (yH acc),zU3 l1 ⟨kr,kk,acc⟩) ⟨by show R.length - (i+1)<R.length - i;omega,⟨q,az,aa⟩,at_n 6 (by simp[go_sem,out0]) rfl (an _ 6 dc) dc (zF sg rfl)⟩
theorem yG5 (l:List GValue) (hl:l.length<=10000) (hz:l≠ []):VCalls prog 160 [.sl .ro (l.map GValue.row)] [] (fun r s=>r= .lsv 0 3 l.length 0 l.length/\s= [.lst (l.map GValue.row) 3]):=by
 refine iV 0 func160 ntmps160 results160 fun c hc hb=> ?_
 refine zx7 7 dc ?_
 refine zA ?_
 have hp:0<l.length:=by cases l with
  |nil=>exact absurd rfl hz
  |cons a l=>simp
 have hu:uni 3 (l.map GValue.row):=by
  intro r hr
  obtain⟨v,_,rfl⟩:=Ad.1 hr
  rfl
 simp[go_sem,hp]
 refine zI ⟨om,by simp[uni],hu⟩ ?_
 simp[go_sem]
 exact yo2 sM ⟨rfl,rfl⟩
theorem yx2 (T:GTable) (hT:T.cols.length<=maxLen) (row:List GValue) (hv: ∀v∈row,v.ok) (e:GExpr) (he:EOk e):Pure prog 106 [.agg T.row,.sl .ro (row.map GValue.row),.agg e.row] (valP (evR T row e)):=by
 have an:=yx3 T hT e he
 have hok:= @yt9 T row
 generalize hM:evR T row e=M
 unfold evR at hM
 have ret: ∀(v:GValue) (e:Int) (σ:St),(v,e)=M->wret (some (.tup [.agg v.row,.int .i64 e])) 0 (fun r s=>r=valP M/\s= []) σ:=fun v e σ h=>zo3 h
 refine iV 0 func106 ntmps106 results106 fun c hc hb=> ?_
 refine zA ?_
 simp[go_sem]
 refine zM an cB (zN sg (by rw[GExpr.row_eq];rfl)) rfl ?_
 simp[go_sem,wK]
 by_cases q:(zb3 T e).2=0
 rotate_left
 .have q':((zb3 T e).2 !=0)=true:=sU q
  rw[if_pos q]at hM
  simp[go_sem,q']
  exact ret zeroV _ _ hM
 have q':((zb3 T e).2 !=0)=false:=sU q
 have n1: ¬(zb3 T e).2≠0:=fun h=>h q
 rw[if_neg n1]at hM
 by_cases hlen:row.length=T.cols.length
 rotate_left
 .have h1:((row.length:Int) !=T.cols.length)=true:=by simp;omega
  rw[if_pos (by unfold zn5;rw[decide_eq_false hlen,Ds])]at hM
  simp[go_sem,q',h1]
  exact ret zeroV 9 _ hM
 have h1:((row.length:Int) !=T.cols.length)=false:=by simp;omega
 obtain⟨mr,ai⟩:=eX (zn5 T.cols row)
 have aa:=ai
 unfold zn5 at aa
 rw[decide_eq_true hlen,Au]at aa
 rw[ai]at hM hok
 simp[go_sem,q',h1]
 refine zH (S:=Nat×GValue) [1,3,5,6,29,30,31] (fun u=> [.sl .ro (row.map GValue.row),.ptr 0 0,.ptr 1 0,.ptr 2 0,.sl .ro (row.map GValue.row),.int .i64 row.length,.int .i64 u.1])
   (fun u=> [.box T.row,.box e.row,.box u.2.row]) (fun u=>row.length - u.1) (fun u=>u.1<=row.length/\(((row.zip T.cols).drop u.1).all fun p=>zY5 p.1 p.2)=mr) hc hb (0,zeroV) ⟨A3 _,aa⟩ ?_ ?_
 .exact at_n 3 (by simp[go_sem,zeroV]) rfl (by simp[ltOb,ltC,ltK,GExpr.row_eq,GTable.row,GValue.row]) (A3 _) (zF sg rfl)
 rintro⟨i,v0⟩ ⟨hi,hinv⟩
 simp only at hi hinv
 by_cases p:i<row.length
 rotate_left
 .rw[A9 (by rw[List.length_zip];omega)]at hinv
  have hm:mr=true:=hinv.symm
  rw[if_neg (by rw[hm];decide)]at hM
  have aj:=hok hm hv
  have ab:Pure prog 178 [.agg T.row,.sl .ro (row.map GValue.row),.agg e.row] (valP (evF T row e)):=by
   unfold zb3 at q
   by_cases d:za0 e<=64
   .rw[if_pos d]at q;exact yT1 aj hT 64 e d he.wide he.good q
   .rw[if_neg d]at q;cases q
  rw[hM]at ab
  refine zA ?_
  simp[go_sem,p]
  refine zM ab cB ⟨zC rfl,zL,zQ1 e,tV⟩ rfl ?_
  simp[go_sem,valP]
  exact zo3 rfl
 have qc:i<T.cols.length:=om
 have ei:=zS p (by unfold maxLen at hT;omega)
 obtain⟨v,ak⟩:=eX (row[i])
 obtain⟨C,hC⟩:=eX (T.cols[i])
 have qz:i<(row.zip T.cols).length:=by rw[List.length_zip];omega
 rw[zH1 _ _ _ qz,List.getElem_zip,ak,hC]at hinv
 obtain⟨tl,af⟩: ∃tl,(((row.zip T.cols).drop (i+1)).all fun p=>zY5 p.1 p.2)=tl:=⟨_,rfl⟩
 rw[af]at hinv
 unfold zY5 at hinv
 have al:=yq6 v
 simp only at hinv
 generalize mayF v=mv at al hinv
 refine zA ?_
 simp[go_sem,p,ak]
 refine xA [(1,0)] 4 sM kR kR ?_
 simp[go_sem]
 refine pD al ?_
 refine(A7 mv).elim (fun p2=> ?_) (fun p2=> ?_)
 rotate_left
 .have hm:mr=false:=by rw[<-hinv,p2];simp
  rw[if_pos hm]at hM
  simp[go_sem,p2]
  exact ret zeroV 9 _ hM
 rw[p2,Au]at hinv
 simp[go_sem,p2]
 by_cases k1:v.kind=C.kind
 .have ag:(v.kind !=C.kind)=false:=sU k1
  have ad:(v.kind==C.kind)=true:=sU k1
  rw[ad,E4,Au]at hinv
  simp[go_sem,ag,qc,hC,ei]
  exact zG (i+1,v0) ⟨by show row.length - (i+1)<row.length - i;omega,⟨p,af.trans hinv⟩,at_n 3 (by simp[go_sem,GExpr.row_eq]) rfl (by simp[ltOb,ltC,ltK,GExpr.row_eq]) dc (zF sg rfl)⟩
 have ag:(v.kind !=C.kind)=true:=sU k1
 have ad:(v.kind==C.kind)=false:=sU k1
 rw[ad,E7]at hinv
 simp[go_sem,ag,qc,hC]
 by_cases k0:v.kind=0
 .have ah:(v.kind !=0)=false:=sU k0
  have ae:(v.kind==0)=true:=sU k0
  rw[ae,Au]at hinv
  simp[go_sem,ah,ei]
  exact zG (i+1,v0) ⟨by show row.length - (i+1)<row.length - i;omega,⟨p,af.trans hinv⟩,at_n 3 (by simp[go_sem,GExpr.row_eq]) rfl (by simp[ltOb,ltC,ltK,GExpr.row_eq]) dc (zF sg rfl)⟩
 have ah:(v.kind !=0)=true:=sU k0
 have ae:(v.kind==0)=false:=sU k0
 rw[ae,Ds]at hinv
 rw[if_pos hinv.symm]at hM
 simp[go_sem,ah]
 exact ret zeroV 9 _ hM
theorem xw8 {T:GTable} {row:List GValue} (hv: ∀v∈row,v.ok) {e:GExpr} (he:EOk e) (h:(evR T row e).2=0):VK (evR T row e).1 (zb3 T e).1:=by
 unfold evR at h⊢
 by_cases q:(zb3 T e).2=0
 rotate_left
 .rw[if_pos q]at h;exact absurd h q
 have n1: ¬(zb3 T e).2≠0:=fun h=>h q
 rw[if_neg n1]at h⊢
 cases hm:zn5 T.cols row with
 |false=>rw[hm]at h;simp at h
 |true=>
  rw[hm]at h
  simp only[Bool.true_eq_false,if_false]at h⊢
  unfold zb3 at q⊢
  by_cases d:za0 e<=64
  .rw[if_pos d]at q⊢
   exact xb9 (yt9 hm hv) 64 e d he.good q h
  .rw[if_neg d]at q;cases q
theorem xQ7 (T:GTable) (e:GExpr) (x:Ln) (l:List Ln) (acc:GValue):sumF T e (x::l) acc=
  if(evR T x.v e).2≠0 then(zeroV,(evR T x.v e).2)
  else if(evR T x.v e).1.kind=0 then sumF T e l acc
  else if(rngF (acc.n+(evR T x.v e).1.n)).2≠0 then(zeroV,(rngF (acc.n+(evR T x.v e).1.n)).2)
  else sumF T e l ⟨2,(rngF (acc.n+(evR T x.v e).1.n)).1,[]⟩:=rfl
theorem xR2 (T:GTable) (hT:T.cols.length<=maxLen) (e:GExpr) (he:EOk e) (l:List Ln) (hl:l.length<=10000) (hok: ∀x∈l,∀v∈x.v,v.ok):VCalls prog 229 [.agg T.row,.agg e.row,.lsv 0 3 l.length 0 l.length] [.lst (l.map Ln.row) 3] (fun r s=>r=valP (sumF T e l zeroV)/\s= [.lst (l.map Ln.row) 3]):=by
 generalize hM:sumF T e l zeroV=M
 have ret: ∀(v:GValue) (er:Int) (σ:St),(v,er)=M->σ.take 1= [.lst (l.map Ln.row) 3]->wret (some (.tup [.agg v.row,.int .i64 er])) 1 (fun r s=>r=valP M/\s= [.lst (l.map Ln.row) 3]) σ:=by
  rintro v er σ rfl h
  exact xM 1 h rfl (by simp[ltOb,ltC,ltK,Ln.row]) (A4 _) (zC rfl) ⟨rfl,rfl⟩
 refine iV 1 func229 ntmps229 results229 fun c hc hb=> ?_
 refine zA ?_
 simp[go_sem]
 refine zH (S:=Nat×GValue) [3,4,6,7,8,13,14,15] (fun u=> [.ptr 1 0,.ptr 2 0,.ptr 3 0,.int .i64 0,.ptr 4 0,.lsv 0 3 l.length 0 l.length,.int .i64 l.length,.int .i64 u.1])
  (fun u=> [.lst (l.map Ln.row) 3,.box T.row,.box e.row,.box zeroV.row,.box u.2.row]) (fun u=>l.length - u.1)
  (fun u=>u.1<=l.length/\okI u.2.n/\u.2.s= []/\sumF T e (l.drop u.1) u.2=M) hc hb (0,zeroV) ⟨A3 _,dc,rfl,hM⟩ ?_ ?_
 .exact at_n 5 (by simp[go_sem,zeroV,GExpr.row_eq]) rfl (by simp[ltOb,ltC,ltK,GExpr.row_eq,GTable.row,GValue.row,Ln.row]) dc (zF sg rfl)
 rintro⟨i,acc⟩ ⟨hi,ha,has,hinv⟩
 simp only at hi ha has hinv
 by_cases q:i<l.length
 rotate_left
 .rw[A9 om]at hinv
  refine zA ?_
  simp[go_sem,q]
  exact ret acc 0 _ hinv rfl
 have ei:=zS q om
 obtain⟨x,hx⟩:=eX (l[i])
 have ai:x∈l:=hx▸Ab q
 rw[A5 q,hx,xQ7]at hinv
 have aa:=yx2 T hT x.v (hok x ai) e he
 have ad:=xw8 (hok x ai) (T:=T) he
 obtain⟨⟨v,er⟩,hv⟩: ∃kv,evR T x.v e=kv:=⟨_,rfl⟩
 rw[hv]at hinv aa ad
 simp only at hinv ad
 refine zA ?_
 simp[go_sem,q,hx]
 refine zM aa cB ⟨zC rfl,zL,zQ1 e,tV⟩ rfl ?_
 simp[go_sem,valP]
 by_cases q2:er=0
 rotate_left
 .have ae:(er !=0)=true:=sU q2
  rw[if_pos q2]at hinv
  simp[go_sem,ae]
  exact ret zeroV er _ hinv rfl
 have ae:(er !=0)=false:=sU q2
 rw[if_neg (fun h=>h q2)]at hinv
 have aj:=ad q2
 simp[go_sem,ae]
 by_cases k0:v.kind=0
 .have af:(v.kind==0)=true:=sU k0
  rw[if_pos k0]at hinv
  simp[go_sem,af,ei]
  exact zG (i+1,acc) ⟨by show l.length - (i+1)<l.length - i;omega,⟨q,ha,has,hinv⟩,at_n 5 (by simp[go_sem,zeroV,GExpr.row_eq]) rfl (by simp[ltOb,ltC,ltK,GExpr.row_eq,Ln.row]) dc (zF sg rfl)⟩
 have af:(v.kind==0)=false:=sU k0
 rw[if_neg k0]at hinv
 have ab:=zU7 acc.n v.n ha aj.n
 have ag:=yC0 (acc.n+v.n)
 obtain⟨⟨sn,se⟩,hs⟩: ∃s,rngF (acc.n+v.n)=s:=⟨_,rfl⟩
 rw[hs]at hinv ab ag
 simp only at hinv ag
 simp[go_sem,af]
 refine pC ab ?_
 simp[go_sem,wK]
 by_cases q3:se=0
 rotate_left
 .have ah:(se !=0)=true:=sU q3
  rw[if_pos q3]at hinv
  simp[go_sem,ah]
  exact ret zeroV se _ hinv rfl
 have ah:(se !=0)=false:=sU q3
 rw[if_neg (fun h=>h q3)]at hinv
 simp[go_sem,ah,ei]
 exact zG (i+1,⟨2,sn,[]⟩) ⟨by show l.length - (i+1)<l.length - i;omega,⟨q,ag,rfl,hinv⟩,at_n 5 (by simp[go_sem,zeroV,GExpr.row_eq,has]) rfl (by simp[ltOb,ltC,ltK,GExpr.row_eq,Ln.row]) dc (zF sg rfl)⟩
def oneV (r:List GValue×Int):V:=if r.2=0 then .tup [.agg (Ot.row ⟨0,[r.1]⟩),.int .i64 0]else .tup [.agg (Ot.row ⟨0,[]⟩),.int .i64 r.2]
theorem wf6 (T:GTable) (hT:T.cols.length<=maxLen) (st:GStmt) (af:SOk st) (l:List Ln) (hl:l.length<=10000) (hok: ∀x∈l,∀v∈x.v,v.ok):VCalls prog 155 [.agg T.row,.agg st.row,.lsv 0 3 l.length 0 l.length] [.lst (l.map Ln.row) 3] (fun r s=>r=oneV (zt3 T l st.items [])/\s= [.lst (l.map Ln.row) 3]):=by
 generalize hM:zt3 T l st.items []=M
 obtain⟨R,hR⟩:=eX st.items
 obtain⟨ag,ae⟩:=af.items
 rw[hR]at ag ae hM
 have bad: ∀(er:Int) (σ:St),([],er)=M->er≠0->σ.take 1= [.lst (l.map Ln.row) 3]->wret (some (.tup [.agg [.sl .full [],.int .i64 0],.int .i64 er])) 1 (fun r s=>r=oneV M/\s= [.lst (l.map Ln.row) 3]) σ:=by
  rintro er σ rfl h0 h
  refine xM 1 (r:= .tup [.agg (Ot.row ⟨0,[]⟩),.int .i64 er]) h rfl (by simp[ltOb,ltC,ltK,Ln.row]) (A4 _) (xU ⟨zd0 ⟨yX,zU rfl,tV⟩,za1 rfl,tV⟩) ⟨?_,rfl⟩
  unfold oneV
  rw[if_neg h0]
 have good: ∀(acc:List GValue) (σ:St),(acc,0)=M->σ.take 1= [.lst (l.map Ln.row) 3]->wret (some (.tup [.agg [.sl .full [[.sl .ro (acc.map GValue.row)]],.int .i64 0],.int .i64 0])) 1 (fun r s=>r=oneV M/\s= [.lst (l.map Ln.row) 3]) σ:=by
  rintro acc σ rfl h
  exact xM 1 (r:= .tup [.agg (Ot.row ⟨0,[acc]⟩),.int .i64 0]) h rfl (by simp[ltOb,ltC,ltK,Ln.row]) (A4 _) (xU ⟨zd0 ⟨yX,zU rfl,tV⟩,za1 rfl,tV⟩) ⟨rfl,rfl⟩
 refine iV 1 func155 ntmps155 results155 fun c hc hb=> ?_
 refine zA ?_
 simp[go_sem,hR]
 refine zo5 8 3 dc sg ?_
 refine zH (S:=Nat×List GValue) [2,3,4,6,7,8,15,16,17] (fun u=> [.lsv 0 3 l.length 0 l.length,.ptr 1 0,.ptr 2 0,.ptr 3 0,.int .i64 0,.sl (.app 4) (u.2.map GValue.row),.sl .ro (R.map GItem.row),.int .i64 R.length,.int .i64 u.1])
  (fun u=> [.lst (l.map Ln.row) 3,.box T.row,.box st.row,.box [.sl .full [],.int .i64 0],.app u.2.length 3]) (fun u=>R.length - u.1)
  (fun u=>u.1<=R.length/\u.2.length<=u.1/\zt3 T l (R.drop u.1) u.2=M) hc hb (0,[]) ⟨A3 _,A4 _,hM⟩ ?_ ?_
 .exact at_n 5 (by simp[go_sem,hR]) rfl (by simp[ltOb,ltC,ltK,GTable.row,GStmt.row,Ln.row]) dc (zF sg rfl)
 rintro⟨i,acc⟩ ⟨hi,ha,hinv⟩
 simp only at hi ha hinv
 by_cases q:i<R.length
 rotate_left
 .rw[A9 om]at hinv
  refine zA ?_
  simp[go_sem,q]
  exact good acc _ hinv rfl
 have ei:=zS q om
 obtain⟨x,hx⟩:=eX (R[i])
 have ah:=(ae x (hx▸Ab q)).2
 rw[A5 q,hx,zt3]at hinv
 refine zA ?_
 simp[go_sem,q,hx]
 by_cases k4:x.kind=4
 rotate_left
 .have ab:(x.kind==4)=false:=sU k4
  rw[if_neg k4]at hinv
  simp[go_sem,ab]
  refine zI ⟨om,zX rfl⟩ ?_
  simp[go_sem,ei]
  exact zG (i+1,acc++ [⟨2,l.length,[]⟩]) ⟨by show R.length - (i+1)<R.length - i;omega,⟨q,by show(acc++ [_]).length<=i+1;simp;omega,hinv⟩,aN 5 (by simp[ltOb,ltC,ltK,Ln.row])⟩
 have ab:(x.kind==4)=true:=sU k4
 rw[if_pos k4]at hinv
 simp[go_sem,ab]
 have aa:=xR2 T hT x.e ah l hl hok
 obtain⟨⟨v,er⟩,hv⟩: ∃kv,sumF T x.e l zeroV=kv:=⟨_,rfl⟩
 rw[hv]at hinv aa
 simp only at hinv
 refine zm2 0 aa cB rfl (by simp[ltOb,ltC,ltK,Ln.row]) ⟨zC rfl,zQ1 x.e,.inl rfl,tV⟩ (by rintro r s ⟨rfl,rfl⟩;exact⟨_,rfl,by simp[ltOb,ltC,ltK,Ln.row]⟩) ?_
 rintro r o ⟨rfl,ho⟩
 cases ho
 simp[go_sem,valP]
 by_cases q2:er=0
 rotate_left
 .have ad:(er !=0)=true:=sU q2
  rw[if_pos q2]at hinv
  simp[go_sem,ad]
  exact bad er _ hinv q2 rfl
 have ad:(er !=0)=false:=sU q2
 rw[if_neg (fun h=>h q2)]at hinv
 simp[go_sem,ad]
 refine zI ⟨om,zX rfl⟩ ?_
 simp[go_sem,ei]
 exact zG (i+1,acc++ [v]) ⟨by show R.length - (i+1)<R.length - i;omega,⟨q,by show(acc++ [_]).length<=i+1;simp;omega,hinv⟩,aN 5 (by simp[ltOb,ltC,ltK,Ln.row])⟩
theorem yZ1 (y:GItem):Pure prog 228 [.agg y.row] (.bool (y.kind==3||y.kind==4)):=by
 refine iV 0 func228 ntmps228 results228 fun c hc hb=> ?_
 refine zA ?_
 by_cases k:y.kind=3
 .have k':(y.kind==3)=true:=sU k
  simp[go_sem,k']
  exact wR
 .have k':(y.kind==3)=false:=sU k
  simp[go_sem,k']
  exact wR
theorem xY5 (l:List GItem) (hl:l.length<=12):Pure prog 290 [.sl .ro (l.map GItem.row),.fn 228 []] (.int .i64 (zb9 (fun y=>y.kind==3||y.kind==4) l 0)):=by
 generalize hM:zb9 (fun y:GItem=>y.kind==3||y.kind==4) l 0=M
 have ret: ∀(r:Int) (σ:St),r=M->wret (some (.int .i64 r)) 0 (fun r s=>r= .int .i64 M/\s= []) σ:=fun r σ h=>by subst h;exact wR
 refine iV 0 func290 ntmps290 results290 fun c hc hb=> ?_
 refine zA ?_
 simp[go_sem]
 refine zH (S:=Nat) [0,1,6,7,8] (fun i=> [.sl .ro (l.map GItem.row),.fn 228 [],.sl .ro (l.map GItem.row),.int .i64 l.length,.int .i64 (i:Int)]) (fun _=> []) (fun i=>l.length - i)
  (fun i=>i<=l.length/\zb9 (fun y=>y.kind==3||y.kind==4) (l.drop i) i=M) hc hb 0 ⟨A3 _,hM⟩ ?_ ?_
 .exact aN 0 sM
 rintro i ⟨hi,hinv⟩
 by_cases q:i<l.length
 rotate_left
 .rw[A9 om]at hinv
  refine zA ?_
  simp[go_sem,q]
  exact ret _ _ hinv
 have ei:=zS q om
 obtain⟨y,hy⟩:=eX (l[i])
 rw[A5 q,hy,zb9]at hinv
 have aa:=yZ1 y
 generalize (y.kind==3||y.kind==4)=b at aa hinv
 refine zA ?_
 simp[go_sem,q,hy]
 refine pC aa ?_
 refine(A7 b).elim (fun p=> ?_) (fun p=> ?_)
 .rw[if_pos p]at hinv
  simp[go_sem,p]
  exact ret _ _ hinv
 .rw[if_neg (by rw[p];decide)]at hinv
  simp[go_sem,p,ei]
  exact zG (i+1) ⟨om,⟨om,hinv⟩,aN 0 sM⟩
theorem xX9 (l:List GItem) (hl:l.length<=12):Pure prog 227 [.sl .ro (l.map GItem.row),.fn 228 []] (.bool (zs7 l)):=by
 have h:=xY5 l hl
 have hg:=zB2 (fun y:GItem=>y.kind==3||y.kind==4) l 0
 unfold zs7
 rw[<-hg]
 generalize zb9 (fun y:GItem=>y.kind==3||y.kind==4) l 0=n at h⊢
 refine iW 0 func227 ntmps227 results227 fun c hc hb=>zK ?_
 simp[go_sem]
 refine pC h ?_
 simp[go_sem]
 exact wR
theorem xS4 (st:GStmt) (aa:SOk st):Pure prog 154 [.agg st.row] (.bool (zs7 st.items)):=by
 have h:=xX9 st.items aa.items.1
 generalize zs7 st.items=b at h⊢
 refine iW 0 func154 ntmps154 results154 fun c hc hb=>zK ?_
 simp[go_sem]
 refine pC h ?_
 simp[go_sem]
 exact wR
theorem zN1 {α:Type}: ∀{W:List (Pl×α)},(∀e∈W,e.1≠p)->W.filter (fun e=> !decide (e.1=p))=W:=fun{W} h=>
 D1.2 fun e he=>by simp[h e he]
theorem zQ6 {α:Type} {p:Pl} {v:α}: ∀{W:List (Pl×α)} {i:Nat},(W.map (·.1)).Nodup->W[i]? =some (p,v)->W.eraseIdx i=W.filter (fun e=> !decide (e.1=p))
 | [],i,_,h=>by simp at h
 |e::W,0,hn,h=>by
  simp only[List.getElem?_cons_zero,Option.some.injEq]at h
  subst h
  rw[Ai,Bw]at hn
  rw[List.eraseIdx_cons_zero,C4,if_neg sM]
  exact(zN1 fun e he q=>hn.1 (Ad.2 ⟨e,he,q⟩)).symm
 |e::W,i+1,hn,h=>by
  rw[Cd]at h
  rw[Ai,Bw]at hn
  have aa:e.1≠p:=fun q=>hn.1 (Ad.2 ⟨(p,v),B7 h,q.symm⟩)
  rw[List.eraseIdx_cons_succ,C4,if_pos (by simp[aa]),zQ6 hn.2 h]
theorem we6 (hn:(b.W.map (·.1)).Nodup) (p:Pl):(b.del p).W=b.W.filter (fun e=> !decide (e.1=p)):=by
 unfold Mp.del
 cases h:b.at p with
 |none=>exact(zN1 (zL2 h)).symm
 |some q=>exact zQ6 hn (zj1 (i:=q.1) (v:=q.2) h)
theorem xh4 {α:Type} {p:Pl} {u v:α}: ∀{W:List (Pl×α)} {i:Nat},(W.map (·.1)).Nodup->W[i]? =some (p,u)->W.set i (p,v)=W.map (fun e=>if e.1=p then(p,v)else e)
 | [],i,_,h=>by simp at h
 |e::W,0,hn,h=>by
  simp only[List.getElem?_cons_zero,Option.some.injEq]at h
  subst h
  rw[Ai,Bw]at hn
  rw[Cr,Ai,if_pos rfl]
  congr 1
  refine(List.map_id _).symm.trans (Bk fun e he=> ?_)
  rw[if_neg fun q=>hn.1 (Ad.2 ⟨e,he,q⟩)];rfl
 |e::W,i+1,hn,h=>by
  rw[Cd]at h
  rw[Ai,Bw]at hn
  have aa:e.1≠p:=fun q=>hn.1 (Ad.2 ⟨(p,u),B7 h,q.symm⟩)
  rw[Bs,Ai,if_neg aa,xh4 hn.2 h]
theorem NowOk.keys {l:List Ln} (h:NowOk b l):(b.W.map (·.1)).Nodup:=by
 have h1:=h.perm.map (·.1)
 rw[Bh]at h1
 exact h1.nodup_iff.2 h.rise.nodup
theorem NowOk.del {l:List Ln} (h:NowOk b l) (p:Pl):NowOk (b.del p) (l.filter fun y=> !decide (y.at=p)):=by
 refine⟨Mp.del_ok h.ok _, ?_, ?_,fun y hy=>h.rows y (Bb.1 hy).1⟩
 .exact List.Pairwise.sublist ((Bp).map _) h.rise
 .rw[we6 h.keys]
  have h1:=h.perm.filter (fun e=> !decide (e.1=p))
  rw[List.filter_map]at h1
  exact h1
theorem NowOk.turn {l:List Ln} (h:NowOk b l) (p:Pl) (row:List GValue) (hp:atF l p=true) (aa:LnOk ⟨p.1,p.2,row⟩):NowOk (b.put p (yH row)) (putF l p row):=by
 have ab:(putF l p row).map Ln.at=l.map Ln.at:=by
  unfold putF
  rw[Bh]
  refine Bk fun y _=> ?_
  by_cases q:y.at=p
  .simp only[Function.comp,if_pos q];rfl
  .simp only[Function.comp,if_neg q]
 refine⟨Mp.put_ok h.ok _ _, ?_, ?_,fun y hy=> ?_⟩
 .rw[ab];exact h.rise
 .have e:(b.put p (yH row)).W=b.W.map (fun e=>if e.1=p then(p,yH row)else e):=by
   unfold Mp.put
   cases r:b.at p with
   |none=>rw[h.at_none.1 r]at hp;cases hp
   |some q=>exact xh4 h.keys (zj1 (i:=q.1) (v:=q.2) r)
  rw[e]
  have h1:=h.perm.map (fun e=>if e.1=p then(p,yH row)else e)
  rw[Bh]at h1
  refine h1.trans (List.Perm.of_eq ?_)
  unfold putF
  rw[Bh]
  refine Bk fun y _=> ?_
  by_cases q:y.at=p
  .simp only[Function.comp,if_pos q]
   show _=((y.r,y.k),yH row)
   rw[<-q];rfl
  .simp only[Function.comp,if_neg q]
 .unfold putF at hy
  obtain⟨z,hz,rfl⟩:=Ad.1 hy
  by_cases q:z.at=p
  .rw[if_pos q]
   subst q
   exact aa
  .rw[if_neg q];exact h.rows z hz
theorem VK.okV {v:GValue} {k:Int} (h:VK v k):v.ok:=by
 have hm:=h.may
 have hn:=h.n
 rcases zO8 hm with ⟨h1,_,h3⟩|⟨h1,_,h3⟩|⟨h1,h3⟩|⟨h1,_,h3⟩
 all_goals
  refine⟨by rw[h1];decide,hn, ?_⟩
  first|(rw[h3];decide)|(unfold maxLen;omega)
theorem yd4 {T:GTable} {old:List GValue} (ho: ∀v∈old,v.ok): ∀{sets:List GAssign} {row:List GValue},(∀x∈sets,EOk x.e)->(∀v∈row,v.ok)->(setF T old sets row).2=0->(setF T old sets row).1.length=row.length/\ ∀v∈(setF T old sets row).1,v.ok
 | [],row,_,hr,_=>(by trivial)
 |x::l,row,hs,hr,h=>by
  rw[setF]at h⊢
  by_cases q:(evR T old x.e).2=0
  .rw[if_neg om]at h⊢
   have hv:=(xw8 ho (by grind) q).okV
   have h2:=yd4 ho (sets:=l) (row:=row.set (colF T x.name).toNat (evR T old x.e).1) (by grind) (by grind) h
   grind
  grind
theorem yo0 {T:GTable} {st:GStmt}: ∀{l acc:List Ln},∀x∈(zo6 T st acc l).1,x∈acc∨x∈l
 | [],_,_,h=> .inl h
 |y::l,acc,x,h=>by
  rw[zo6]at h
  by_cases q:(evR T y.v st.where_).2=0
  .rw[if_neg om]at h
   rcases yo0 (l:=l) x h with h|h
   all_goals grind
  grind
theorem zS1 {t:Int} {T:GTable} {st:GStmt} {l:List Ln}: ∀x∈(metF t T st l).1,x∈l/\(zm5 t st x)=true:=fun x h=>by
 unfold metF at h
 have hf:x∈l.filter (zm5 t st):=by
  by_cases q:st.filtered=true
  .rw[if_pos q]at h
   rcases yo0 x h with h|h
   all_goals grind
  grind
 grind
theorem xP0 (l:List Ln) (p:Pl) (row:List GValue):(putF l p row).map Ln.at=l.map Ln.at:=by
 unfold putF
 rw[Bh]
 refine Bk fun y _=> ?_
 by_cases q:y.at=p
 .simp only[Function.comp,if_pos q];rfl
 grind
theorem yF6 (l:List Ln) (p q:Pl) (row:List GValue):atF (putF l p row) q=atF l q:=by
 rw[Dl,atF_iff,atF_iff,xP0]
end Go.Proofs.YtefbicjgbaaieaaGreat
