/-
  The document's lists of lines: less, at, has, hasRegion, with; used by the walk of the document's Run.
  Conditions: as each theorem states them.
-/
import Derived.Test.YtefbicjgbaaieaaGreatQAS
import Derived.Test.YtefbicjgbaaieaaGreatQAP
import Derived.Test.YtefbicjgbaaieaaGreatQAN
import Derived.Test.YtefbicjgbaaieaaGreatQAR
import Derived.Test.YtefbicjgbaaieaaGreatQAI
set_option maxHeartbeats 8000000
namespace Go.Proofs.YtefbicjgbaaieaaGreat
open Go Go.Vx R Go.Proofs.Tryz
set_option maxRecDepth 100000
def orL:List Int->Int |[]=>0|x::l=>if x=0then orL l else x
theorem or_w(l:List Int)(hl:l.length<=maxLen):Pure prog 163 [.sl .ro (l.map λn=>[V.int .i64 n])] (.int .i64 (orL l)):=by
 generalize hM:orL l=M;have ret:∀(r:Int)(σ:St),r=M->wret (some (.int .i64 r)) 0 (λr s=>r=.int .i64 M/\s=[]) σ:=λr σ h=>by subst h;exact wR
 refine iV 0 func163 ntmps163 results163 λc hc hb=>?_;refine zA ?_;simp[go_sem];refine zH (S:=Nat) [3,6,7,8] (λi=>[.int .i64 0,.sl .ro (l.map λn=>[V.int .i64 n]),.int .i64 l.length,.int .i64 i]) (λ_=>[]) (λi=>l.length-i) (λi=>i<=l.length/\orL (l.drop i)=M) hc hb 0 ⟨A2 _,hM⟩ ?_ ?_;.exact aO
 rintro i⟨hi,hinv⟩;by_cases q:i<l.length;rotate_left;.have e:l.drop i=[]:=A9 om;rw[e]at hinv;refine zA ?_;simp[go_sem,q];exact ret _ _ hinv
 have ei:=zS q (by unfold maxLen at hl;omega);obtain⟨r,hr⟩:=eX (l[i]);rw[A5 q,orL,hr]at hinv;refine zA ?_;simp[go_sem,q,hr];by_cases w1:r=0
 .rw[if_pos w1]at hinv;have aa:(r !=0)=false:=by simp[w1]
  simp[go_sem,aa,ei];exact zG (i+1) ⟨om,⟨q,hinv⟩,aO⟩
 rw[if_neg w1]at hinv;have aa:(r !=0)=true:=by simpa using w1
 simp[go_sem,aa];exact ret _ _ hinv
def cmpV(a b:GValue):Int:=orL [cmpI a.kind b.kind,cmpI a.n b.n,cmpS a.s b.s]
theorem yp6(a b:GValue):Pure prog 159 [.agg a.row,.agg b.row] (.int .i64 (cmpV a b)):=by have h:=or_w [cmpI a.kind b.kind,cmpI a.n b.n,cmpS a.s b.s] (by simp[maxLen]);have h1:=yF9 a.kind b.kind;have h2:=yR5 a.n b.n;have h3:=yG1 a.s b.s;unfold cmpV;generalize orL [cmpI a.kind b.kind,cmpI a.n b.n,cmpS a.s b.s]=M at*;refine iW 0 func159 ntmps159 results159 λc hc hb=>zO ?_;simp[go_sem];refine yU [(4,0),(9,0),(14,0),(16,0)] 2 rfl kR kR ?_;simp[go_sem];refine pD h1 ?_;simp[go_sem];refine pD h2 ?_;simp[go_sem];refine pD h3 ?_;simp[go_sem];refine pD h ?_;simp[go_sem];exact wR
def valP(x:GValue×Int):V:=.tup [.agg x.1.row,.int .i64 x.2]
def zeroV:GValue:=⟨0,0,[]⟩
def zu6(r:Int×Int):GValue×Int:=if r.2=0then(⟨2,r.1,[]⟩,0)else(zeroV,r.2)
theorem xf8{x:GValue×Int}{k n e:Int}{s:List UInt8}{σ:St}(h:x=(⟨k,n,s⟩,e)):wret (some (.tup [.agg [.int .i64 k,.int .i64 n,.str s],.int .i64 e])) 0 (λv s=>v=valP x/\s=[]) σ:=by subst h;exact wR
theorem yL1(r:Int×Int):Pure prog 316 [.int .i64 r.1,.int .i64 r.2] (valP (zu6 r)):=by
 generalize hM:zu6 r=M;unfold zu6 at hM;refine iW 0 func316 ntmps316 results316 λc hc hb=>zO ?_;simp[go_sem];by_cases q:r.2=0
 .rw[if_pos q]at hM;have q1:(r.2!=0)=false:=by simpa using q
  simp[go_sem,q1];exact xf8 hM.symm
 .rw[if_neg q]at hM;have q1:(r.2!=0)=true:=by simpa using q
  simp[go_sem,q1];exact xf8 hM.symm
def zV3(s:List UInt8)(c:Int):Bool:=if s=[61]then c==0 else if s=[60,62]then c !=0 else if s=[60]then decide (c<0)else if s=[60,61]then decide (c<=0)else if s=[62]then decide (0<c)else decide (0<=c)
theorem xK2(s:List UInt8)(x:Int):Pure prog 318 [.str s,.int .i64 x] (.bool (zV3 s x)):=by
 generalize hM:zV3 s x=M;have ret:∀(r:Bool)(σ:St),r=M->wret (some (.bool r)) 0 (λr s=>r=.bool M/\s=[]) σ:=λr σ h=>by subst h;exact wR
 unfold zV3 at hM;refine iW 0 func318 ntmps318 results318 λc hc hb=>zO ?_;simp[go_sem];repeat'(first|(refine zN (λq=>?_) (λq=>?_)<;>simp[go_sem,q]))
 all_goals exact ret _ _ (by rw[<-hM];simp only[beq_iff_eq,beq_eq_false_iff_ne,ne_eq]at*;simp_all)
def zZ8(v:GValue):Bool:=v.kind==1&&(v.n==1&&v.s.isEmpty)
theorem xD6(v:GValue):Pure prog 153 [.agg v.row] (.bool (zZ8 v)):=by have h:=zL8 true;refine iW 0 func153 ntmps153 results153 λc hc hb=>zO ?_;simp[go_sem];refine yU [(1,0)] 1 rfl kR kR ?_;simp[go_sem];refine pD h ?_;simp[go_sem,zA3];exact wR
def zG0(wins:Int):List GValue->Bool->GValue |[],b=>if b=true then zeroV else zA3 (wins==0)|v::l,b=>if v.kind=0then zG0 wins l true else if v.n=wins then v else zG0 wins l b
theorem xq6(l:List GValue)(aa:Int)(hl:l.length<=maxLen):Pure prog 315 [.sl .ro (l.map GValue.row),.int .i64 aa] (.agg (zG0 aa l false).row):=by
 generalize hM:zG0 aa l false=M;have ret:∀(v:GValue)(σ:St),v=M->wret (some (.agg v.row)) 0 (λr s=>r=.agg M.row/\s=[]) σ:=λv σ h=>by subst h;exact wR
 refine iV 0 func315 ntmps315 results315 λc hc hb=>?_;refine zA ?_;simp[go_sem];refine zH (S:=Nat×Bool) [1,4,5,8,9,10] (λu=>[.int .i64 aa,.ptr 0 0,.bool u.2,.sl .ro (l.map GValue.row),.int .i64 l.length,.int .i64 u.1]) (λ_=>[.box [.int .i64 0,.int .i64 0,.str []]]) (λu=>l.length-u.1) (λu=>u.1<=l.length/\zG0 aa (l.drop u.1) u.2=M) hc hb (0,false) ⟨A2 _,hM⟩ ?_ ?_;.exact aN 1 (by simp[ltOb,ltC,ltK])
 rintro⟨i,b⟩⟨hi,hinv⟩;simp only at hi hinv;by_cases q:i<l.length;rotate_left
 .have e:l.drop i=[]:=A9 om;rw[e,zG0]at hinv;refine zA ?_;simp[go_sem,q];by_cases w1:b=true;.rw[if_pos w1]at hinv;simp[go_sem,w1];exact ret zeroV _ hinv
  .rw[if_neg w1]at hinv;have ab:b=false:=by simpa using w1
   simp[go_sem,ab];refine pC (zL8 (aa==0)) ?_;simp[go_sem];exact ret _ _ hinv
 have ei:=zS q (by unfold maxLen at hl;omega);obtain⟨r,hr⟩:=eX (l[i]);rw[A5 q,zG0,hr]at hinv;refine zA ?_;simp[go_sem,q,hr];refine pC (yz6 r) ?_;simp[go_sem];by_cases w1:r.kind=0
 .rw[if_pos w1]at hinv;have ab:(r.kind==0)=true:=by simpa using w1
  simp[go_sem,ab,ei];exact zG (i+1,true) ⟨by simp only;omega,⟨q,hinv⟩,aN 1 (by simp[ltOb,ltC,ltK])⟩
 rw[if_neg w1]at hinv;have ab:(r.kind==0)=false:=by simpa using w1
 by_cases w2:r.n=aa
 .rw[if_pos w2]at hinv;have ad:(r.n==aa)=true:=by simpa using w2
  simp[go_sem,ab,ad];exact ret r _ hinv
 rw[if_neg w2]at hinv;have ad:(r.n==aa)=false:=by simpa using w2
 simp[go_sem,ab,ad,ei];exact zG (i+1,b) ⟨by simp only;omega,⟨q,hinv⟩,aN 1 (by simp[ltOb,ltC,ltK])⟩
def cmpOps:List (List UInt8):=[[61],[60,62],[60],[60,61],[62],[62,61]]
def zH3(s:List UInt8)(l:List GValue):GValue×Int:=let x:=l.getD 0 zeroV
 let y:=l.getD 1 zeroV
 if s=[73,83,78,85,76,76]then(zA3 (x.kind==0),0)else if s=[78,79,84,78,85,76,76]then(zA3 (!(x.kind==0)),0)else if s=[65,78,68]then(zG0 0 l false,0)else if s=[79,82]then(zG0 1 l false,0)else if(l.any λv=>v.kind==0)=true then(zeroV,0)else if s=[78,79,84]then(zA3 (!zZ8 x),0)else if s=[78,69,71]then zu6 (rngF (-x.n))else if cmpOps.contains s=true then(zA3 (zV3 s (cmpV x y)),0)else zu6 (zy7 s x.n y.n)
theorem zp0{x:GValue×Int}{M:GValue×Int}{σ:St}(h:x=M):wret (some (.tup [.agg x.1.row,.int .i64 x.2])) 0 (λv s=>v=valP M/\s=[]) σ:=by subst h;exact wR
theorem xU2(s:List UInt8)(l:List GValue)(h1:1<=l.length)(h2:l.length<=2)(hn:∀v∈l,okI v.n)(hs:l.length=1->s=[73,83,78,85,76,76]∨s=[78,79,84,78,85,76,76]∨s=[78,79,84]∨s=[78,69,71]):Pure prog 254 [.str s,.sl .ro (l.map GValue.row)] (valP (zH3 s l)):=by
 obtain⟨x,hx⟩:=eX (l[0]'h1);have ag:l.getD 0 zeroV=x:=by rw[A7,A0 h1,hx];rfl
 have an:l[0]?=some x:=by rw[A0 h1,hx]
 have aa:0<l.length:=h1;have ad:okI x.n:=hn x (hx▸A8 h1);generalize hM:zH3 s l=M;have ret:∀(v:GValue)(e:Int)(σ:St),(v,e)=M->wret (some (.tup [.agg v.row,.int .i64 e])) 0 (λr s=>r=valP M/\s=[]) σ:=λv e σ h=>zp0 h;unfold zH3 at hM;simp only[ag]at hM;refine iV 0 func254 ntmps254 results254 λc hc hb=>?_;by_cases a1:s=[73,83,78,85,76,76];.rw[if_pos a1]at hM;refine zA ?_;simp[go_sem,a1,aa,hx];refine pC (yz6 x) ?_;simp[go_sem];refine pC (zL8 (x.kind==0)) ?_;simp[go_sem];exact ret _ _ _ hM
 by_cases a2:s=[78,79,84,78,85,76,76];.rw[if_neg a1,if_pos a2]at hM;refine zA ?_;simp[go_sem,a2,aa,hx];refine pC (yz6 x) ?_;simp[go_sem];refine pC (zL8 (!(x.kind==0))) ?_;simp[go_sem];exact ret _ _ _ hM
 by_cases a3:s=[65,78,68];.rw[if_neg a1,if_neg a2,if_pos a3]at hM;refine zA ?_;simp[go_sem,a3];refine pC (xq6 l 0 (by unfold maxLen;omega)) ?_;simp[go_sem];exact ret _ _ _ hM
 by_cases a4:s=[79,82];.rw[if_neg a1,if_neg a2,if_neg a3,if_pos a4]at hM;refine zA ?_;simp[go_sem,a4];refine pC (xq6 l 1 (by unfold maxLen;omega)) ?_;simp[go_sem];exact ret _ _ _ hM
 rw[if_neg a1,if_neg a2,if_neg a3,if_neg a4]at hM;have b1:(s==[73,83,78,85,76,76])=false:=by simpa using a1
 have b2:(s==[78,79,84,78,85,76,76])=false:=by simpa using a2
 have b3:(s==[65,78,68])=false:=by simpa using a3
 have b4:(s==[79,82])=false:=by simpa using a4
 refine zA ?_;simp[go_sem,b1,b2,b3,b4];refine zH (S:=Nat) [0,1,4,5,32,33,34] (λi=>[.str s,.sl .ro (l.map GValue.row),.ptr 0 0,.int .i64 0,.sl .ro (l.map GValue.row),.int .i64 l.length,.int .i64 i]) (λ_=>[.box [.int .i64 0,.int .i64 0,.str []]]) (λi=>l.length-i) (λi=>i<=l.length/\((l.drop i).any λv=>v.kind==0)=(l.any λv=>v.kind==0)) hc hb 0 ⟨A2 _,rfl⟩ ?_ ?_;.exact aN 1 (by simp[ltOb,ltC,ltK])
 rintro i⟨hi,hinv⟩;by_cases q:i<l.length
 .have ei:=zS q om;obtain⟨r,hr⟩:=eX (l[i]);rw[A5 q,D8,hr]at hinv;refine zA ?_;simp[go_sem,q,hr];refine pC (yz6 r) ?_;simp[go_sem];by_cases w1:r.kind=0
  .have ab:(r.kind==0)=true:=by simpa using w1
   rw[ab,De]at hinv;rw[if_pos hinv.symm]at hM;simp[go_sem,ab];exact ret zeroV 0 _ hM
  .have ab:(r.kind==0)=false:=by simpa using w1
   rw[ab,C8]at hinv;simp[go_sem,ab,ei];exact zG (i+1) ⟨om,⟨q,hinv⟩,aN 1 (by simp[ltOb,ltC,ltK])⟩
 have e:l.drop i=[]:=A9 om;rw[e,List.any_nil]at hinv;rw[if_neg (by rw[<-hinv];exact Bool.false_ne_true)]at hM;by_cases a5:s=[78,79,84];.rw[if_pos a5]at hM;refine zA ?_;simp[go_sem,q,a5,aa,hx];refine pC (xD6 x) ?_;simp[go_sem];refine pC (zL8 (!zZ8 x)) ?_;simp[go_sem];exact ret _ _ _ hM
 by_cases a6:s=[78,69,71];.rw[if_neg a5,if_pos a6]at hM;refine zA ?_;simp[go_sem,q,a6,aa,hx];refine pC (yz3 0 x.n dc ad) ?_;simp[go_sem,yL];refine pC (yL1 (rngF (-x.n))) ?_;simp[go_sem,valP];exact zp0 hM
 rw[if_neg a5,if_neg a6]at hM;have h3:1<l.length:=by
  by_cases q:1<l.length;.exact q
  .rcases hs om with h|h|h|h;.exact absurd h a1
   .exact absurd h a2
   .exact absurd h a5
   .exact absurd h a6
 obtain⟨y,hy⟩:=eX (l[1]'h3);have ah:l.getD 1 zeroV=y:=by rw[A7,A0 h3,hy];rfl
 have ai:okI y.n:=hn y (hy▸A8 h3);rw[ah]at hM;have b5:(s==[78,79,84])=false:=by simpa using a5
 have b6:(s==[78,69,71])=false:=by simpa using a6
 have aj:=yp6 x y;have ae:=xK2 s (cmpV x y);have af:=zL8 (zV3 s (cmpV x y));have ak:=xA6 s x.n y.n ad ai;have al:=yL1 (zy7 s x.n y.n);by_cases a7:cmpOps.contains s=true
 .rw[if_pos a7]at hM;have a8:s=[61]∨s=[60,62]∨s=[60]∨s=[60,61]∨s=[62]∨s=[62,61]:=by simpa[cmpOps]using a7
  rcases a8 with a8|a8|a8|a8|a8|a8;all_goals rw[a8]at ae af hM;refine zA ?_;simp[go_sem,q,a8];refine yU [(7,0),(8,0),(9,0)] 1 rfl kR kR ?_;simp[go_sem,aa,hx,h3,hy];refine zI om ?_;simp[go_sem];refine pD aj ?_;simp[go_sem];refine pD ae ?_;simp[go_sem];refine pD af ?_;simp[go_sem];exact ret _ _ _ hM
 rw[if_neg a7]at hM;have a8:¬s=[61]/\¬s=[60,62]/\¬s=[60]/\¬s=[60,61]/\¬s=[62]/\¬s=[62,61]:=by simpa[cmpOps]using a7
 have c1:(s==[61])=false:=by simpa using a8.1
 have c2:(s==[60,62])=false:=by simpa using a8.2.1
 have c3:(s==[60])=false:=by simpa using a8.2.2.1
 have c4:(s==[60,61])=false:=by simpa using a8.2.2.2.1
 have c5:(s==[62])=false:=by simpa using a8.2.2.2.2.1
 have c6:(s==[62,61])=false:=by simpa using a8.2.2.2.2.2
 refine zA ?_;simp[go_sem,q,b5,b6,c1,c2,c3,c4,c5,c6];refine yU [(9,0),(12,0)] 1 rfl kR kR ?_;simp[go_sem,aa,hx,h3,hy];refine zI om ?_;simp[go_sem];refine pD ak ?_;simp[go_sem,yL];refine pD al ?_;simp[go_sem,valP];exact zp0 hM
mutual
def evF(T:GTable)(row:List GValue):GExpr->GValue×Int |.mk k s v args=>if k=1then(v,0)else if k=2then(row.getD (colF T s).toNat zeroV,0)else if(evsF T row args).2≠0then(zeroV,(evsF T row args).2)else zH3 s (evsF T row args).1def evsF(T:GTable)(row:List GValue):List GExpr->List GValue×Int|[]=>([],0)|e::l=>if(evF T row e).2≠0then([],(evF T row e).2)else((evF T row e).1::(evsF T row l).1,(evsF T row l).2)end
theorem xt3(T:GTable)(row:List GValue)(e:GExpr):evF T row e=if e.kind=1then(e.v,0)else if e.kind=2then(row.getD (colF T e.s).toNat zeroV,0)else if(evsF T row e.args).2≠0then(zeroV,(evsF T row e.args).2)else zH3 e.s (evsF T row e.args).1:=by cases e;rw[evF];rfl
structure VK(v:GValue)(k:Int):Prop where
 may:mayF v=true
 n:okI v.n
 kind:v.kind=k∨v.kind=0
theorem zL9(k:Int):VK zeroV k:=⟨dc,dc,.inr rfl⟩
theorem zT2(b:Bool):VK (zA3 b) 1:=by cases b<;>exact⟨dc,dc,.inl rfl⟩
theorem yB2(n:Int):okI (rngF n).1:=by
 unfold rngF;split;.assumption
 .decide
theorem yU6{s:List UInt8}{a b:Int}(ha:okI a)(hb:okI b):okI (zy7 s a b).1:=by
 unfold zy7;repeat' split
 all_goals first|exact yB2 _|exact xO8 ha hb|decide
theorem yu9{r:Int×Int}(h:okI r.1):VK (zu6 r).1 2:=by
 unfold zu6;split;.exact⟨rfl,h,.inl rfl⟩
 .exact zL9 2
theorem yd0(w:Int):∀(l:List GValue)(b:Bool),(∀v∈l,VK v 1)->VK (zG0 w l b) 1
 |[],b,_=>by
  rw[zG0];split;.exact zL9 1
  .exact zT2 _|v::l,b,h=>by
  rw[zG0];split;.exact yd0 w l true λx hx=>h x (B4 _ hx)
  .split;.exact h v (Bb ..)
   .exact yd0 w l b λx hx=>h x (B4 _ hx)
theorem zC3{m s:Bool}{k k':Int}(h:zN6 m s k=(k',0)):m=true/\s=true/\k'=k:=by unfold zN6 at h;cases m<;>cases s<;>simp at h;exact⟨rfl,rfl,h.symm⟩
inductive OpK(s:List UInt8)(ks:List Int)(k:Int):Prop|null(hs:s=[73,83,78,85,76,76]∨s=[78,79,84,78,85,76,76])(hl:ks.length=1)(hk:k=1)|not(hs:s=[78,79,84])(hl:ks.length=1)(ha:allK ks 1=true)(hk:k=1)|neg(hs:s=[78,69,71])(hl:ks.length=1)(ha:allK ks 2=true)(hk:k=2)|both(hs:s=[79,82]∨s=[65,78,68])(hl:ks.length=2)(ha:allK ks 1=true)(hk:k=1)|sum(hs:s=[43]∨s=[45]∨s=[42]∨s=[47]∨s=[37])(hl:ks.length=2)(ha:allK ks 2=true)(hk:k=2)|cmp(hs:s=[61]∨s=[60,62]∨s=[60]∨s=[60,61]∨s=[62]∨s=[62,61])(hl:ks.length=2)(hk:k=1)
theorem xz3{s:List UInt8}{ks:List Int}{k:Int}(h:zr8 s ks=(k,0)):OpK s ks k:=by
 have one:((ks.length:Int)==1)=true->ks.length=1:=λh=>by
   have:(ks.length:Int)=1:=by simpa using h
   omega
 have two:((ks.length:Int)==2)=true->ks.length=2:=λh=>by
   have:(ks.length:Int)=2:=by simpa using h
   omega
 unfold zr8 at h;split at h;.obtain⟨h1,_,h3⟩:=zC3 h;exact .null (by assumption) (one h1) h3
 split at h;.obtain⟨h1,h2,h3⟩:=zC3 h;exact .not (by assumption) (one h1) h2 h3
 split at h;.obtain⟨h1,h2,h3⟩:=zC3 h;exact .neg (by assumption) (one h1) h2 h3
 split at h;.obtain⟨h1,h2,h3⟩:=zC3 h;exact .both (by assumption) (two h1) h2 h3
 split at h;.obtain⟨h1,h2,h3⟩:=zC3 h;exact .sum (by assumption) (two h1) h2 h3
 split at h;.obtain⟨h1,_,h3⟩:=zC3 h;exact .cmp (by assumption) (two h1) h3
 .cases h
theorem yE3{R:GValue->Int->Prop}:∀{l:List GValue}{ks:List Int},All2 R l ks->l.length=ks.length |[],[],_=>rfl|_::_,_::_,⟨_,h⟩=>by rw[Ah,Ah,yE3 h]
theorem yv7{k:Int}:∀{l:List GValue}{ks:List Int},All2 VK l ks->allK ks k=true->∀v∈l,VK v k
 |[],[],_,_,v,hv=>by cases hv|x::l,y::ks,⟨h1,h2⟩,ha,v,hv=>by
  unfold allK at ha;rw[Ap,A6,Bv,beq_iff_eq,beq_iff_eq]at ha;rcases Ag.1 hv with rfl|hv;.exact⟨h1.may,h1.n,by
    rcases h1.kind with q|q
    .rcases ha.1with r|r;.exact .inl (q.trans r)
     .exact .inr (q.trans r)
    .exact .inr q⟩
  .exact yv7 h2 ha.2 v hv
theorem xp5{R:GValue->Int->Prop}(hR:∀v k,R v k->okI v.n):∀{l:List GValue}{ks:List Int},All2 R l ks->∀v∈l,okI v.n
 |[],[],_,v,hv=>by cases hv|x::l,y::ks,⟨h1,h2⟩,v,hv=>by
  rcases Ag.1 hv with rfl|hv;.exact hR _ _ h1
  .exact xp5 hR h2 v hv
theorem xh6(l:List GValue):zH3 [78,79,84] l=if(l.any λv=>v.kind==0)=true then(zeroV,0)else(zA3 (!zZ8 (l.getD 0 zeroV)),0):=rfl
theorem xh5(l:List GValue):zH3 [78,69,71] l=if(l.any λv=>v.kind==0)=true then(zeroV,0)else zu6 (rngF (-(l.getD 0 zeroV).n)):=rfl
theorem xh4{s:List UInt8}(hs:s=[61]∨s=[60,62]∨s=[60]∨s=[60,61]∨s=[62]∨s=[62,61])(l:List GValue):zH3 s l=if(l.any λv=>v.kind==0)=true then(zeroV,0)else(zA3 (zV3 s (cmpV (l.getD 0 zeroV) (l.getD 1 zeroV))),0):=by rcases hs with rfl|rfl|rfl|rfl|rfl|rfl<;>rfl
theorem xh7{s:List UInt8}(hs:s=[43]∨s=[45]∨s=[42]∨s=[47]∨s=[37])(l:List GValue):zH3 s l=if(l.any λv=>v.kind==0)=true then(zeroV,0)else zu6 (zy7 s (l.getD 0 zeroV).n (l.getD 1 zeroV).n):=by rcases hs with rfl|rfl|rfl|rfl|rfl<;>rfl
theorem xa0{s:List UInt8}{l:List GValue}{ks:List Int}{k:Int}(ho:zr8 s ks=(k,0))(ha:All2 VK l ks):VK (zH3 s l).1 k/\1<=l.length/\l.length<=2/\(∀v∈l,okI v.n)/\(l.length=1->s=[73,83,78,85,76,76]∨s=[78,79,84,78,85,76,76]∨s=[78,79,84]∨s=[78,69,71]):=by
 have hlen:=yE3 ha;have hn:=xp5 (λ_ _ h=>VK.n h) ha;have hx:∀j,okI (l.getD j zeroV).n:=λj=>by rw[A7];cases hj:l[j]?with|none=>decide|some v=>exact hn v (B7 hj)
 have ab:∀n:Int,okI (rngF n).1:=yB2;cases xz3 ho with
 |null hs hl hk=>subst hk;refine⟨?_,om,om,hn,λ_=>by rcases hs with h|h<;>simp[h]⟩;rcases hs with rfl|rfl<;>exact zT2 _|not hs hl aa hk=>
  subst hs hk;refine⟨?_,om,om,hn,λ_=>sm⟩;rw[xh6];split;.exact zL9 1
  .exact zT2 _|neg hs hl aa hk=>
  subst hs hk;refine⟨?_,om,om,hn,λ_=>sm⟩;rw[xh5];split;.exact zL9 2
  .exact yu9 (ab _)|both hs hl aa hk=>
  subst hk;refine⟨?_,om,om,hn,λh=>om⟩;rcases hs with rfl|rfl;.exact yd0 1 l false (yv7 ha aa)
  .exact yd0 0 l false (yv7 ha aa)|sum hs hl aa hk=>
  subst hk;refine⟨?_,om,om,hn,λh=>om⟩;rw[xh7 hs];split;.exact zL9 2
  .exact yu9 (yU6 (hx 0) (hx 1))|cmp hs hl hk=>
  subst hk;refine⟨?_,om,om,hn,λh=>om⟩;rw[xh4 hs];split;.exact zL9 1
  .exact zT2 _
structure RowOk(T:GTable)(row:List GValue):Prop where
 len:row.length=T.cols.length
 cell:∀(j:Nat)(C:GCol)(v:GValue),T.cols[j]?=some C->row[j]?=some v->VK v C.kind
theorem xa2{T:GTable}{row:List GValue}(hr:RowOk T row):∀(n:Nat)(e:GExpr),xK e<=n->Good e->(ze8 T e).2=0->(evF T row e).2=0->VK (evF T row e).1 (ze8 T e).1
 |0,e,h,_,_,_=>by have:=zu8 e;omega|n+1,e,h,hg,hk,he=>by
  have ih:=xa2 hr n;have af:=zg6 e;rw[xt3]at he⊢;rw[zI2]at hk⊢;by_cases q1:e.kind=1
  .rw[if_pos q1]at hk⊢;rw[if_pos q1];by_cases w:e.s.isEmpty=false∨e.args.isEmpty=false∨mayF e.v=false;.rw[if_pos w]at hk;cases hk
   .rw[if_neg w];refine⟨by cases hm:mayF e.v with|true=>rfl|false=>exact absurd (.inr (.inr hm)) w,⟨hg.v.n.1,hg.v.n.2⟩,.inl rfl⟩
  rw[if_neg q1]at hk he⊢;rw[if_neg q1];by_cases q2:e.kind=2
  .rw[if_pos q2]at hk⊢;rw[if_pos q2];by_cases w:colF T e.s<0;.rw[if_pos w]at hk;cases hk
   rw[if_neg w]at hk⊢;by_cases w2:e.args.isEmpty=false∨zk5 e.v=false;.rw[if_pos w2]at hk;cases hk
   rw[if_neg w2];obtain⟨j,hj,aa⟩:=zA7 T e.s w;have ab:j<row.length:=by rw[hr.len];exact aa
   simp only;rw[hj,Az,A7,A0 ab];unfold colK;rw[Az,A0 aa];exact hr.cell j _ _ (A0 aa) (A0 ab)
  rw[if_neg q2]at hk he⊢;rw[if_neg q2];by_cases q3:e.kind=3;rotate_left;.rw[if_neg q3]at hk;cases hk
  rw[if_pos q3]at hk⊢;have ad:=hg.sub;have list:∀args:List GExpr,(∀x∈args,x∈e.args)->(xR T args).2=0->(evsF T row args).2=0->All2 VK (evsF T row args).1 (xR T args).1:=by intro args;induction args with |nil=>intro _ _ _;exact trivial|cons x l ae=>
    intro hm hk he;rw[xR]at hk⊢;rw[evsF]at he⊢;by_cases w1:(ze8 T x).2=0;rotate_left;.rw[if_pos w1]at hk;exact absurd hk w1
    by_cases w2:(evF T row x).2=0;rotate_left;.rw[if_pos w2]at he;exact absurd he w2
    have n1:¬(ze8 T x).2≠0:=λh=>h w1;have n2:¬(evF T row x).2≠0:=λh=>h w2;rw[if_neg n1]at hk⊢;rw[if_neg n2]at he⊢;have hx:=hm x (Bb ..);have ag:=zg1 e.args x hx;exact⟨ih x om (ad x hx) w1 w2,ae (λy hy=>hm y (B4 _ hy)) hk he⟩
  by_cases w1:(xR T e.args).2=0;rotate_left;.rw[if_pos w1]at hk;exact absurd hk w1
  by_cases w2:(evsF T row e.args).2=0;rotate_left;.rw[if_pos w2]at he;exact absurd he w2
  have n1:¬(xR T e.args).2≠0:=λh=>h w1;have n2:¬(evsF T row e.args).2≠0:=λh=>h w2;rw[if_neg n1]at hk⊢;rw[if_neg n2]at he⊢;by_cases w3:zk5 e.v=false;.rw[if_pos w3]at hk;cases hk
  rw[if_neg w3]at hk⊢;exact(xa0 (Prod.ext rfl hk) (list e.args (λ_ h=>h) w1 w2)).1
theorem yg3{T:GTable}:∀{args:List GExpr},(xR T args).2=0->∀x∈args,(ze8 T x).2=0
 |[],_,x,hx=>by cases hx|y::l,h,x,hx=>by
  rw[xR]at h;by_cases w:(ze8 T y).2=0
  .have n1:¬(ze8 T y).2≠0:=λh=>h w;rw[if_neg n1]at h;rcases Ag.1 hx with rfl|hx;.exact w
   .exact yg3 h x hx
  .rw[if_pos w]at h;exact absurd h w
theorem xt8{T:GTable}{row:List GValue}(hr:RowOk T row)(n:Nat):∀{args:List GExpr},(∀x∈args,xK x<=n/\Good x)->(xR T args).2=0->(evsF T row args).2=0->All2 VK (evsF T row args).1 (xR T args).1
 |[],_,_,_=>trivial|x::l,hm,hk,he=>by
  rw[xR]at hk⊢;rw[evsF]at he⊢;by_cases w1:(ze8 T x).2=0;rotate_left;.rw[if_pos w1]at hk;exact absurd hk w1
  by_cases w2:(evF T row x).2=0;rotate_left;.rw[if_pos w2]at he;exact absurd he w2
  have n1:¬(ze8 T x).2≠0:=λh=>h w1;have n2:¬(evF T row x).2≠0:=λh=>h w2;rw[if_neg n1]at hk⊢;rw[if_neg n2]at he⊢;have hx:=hm x (Bb ..);exact⟨xa2 hr n x hx.1 hx.2 w1 w2,xt8 hr n (λy hy=>hm y (B4 _ hy)) hk he⟩
theorem yR9{T:GTable}{row:List GValue}(hr:RowOk T row)(hT:T.cols.length<=maxLen):∀(n:Nat)(e:GExpr),xK e<=n->Wide e->Good e->(ze8 T e).2=0->Pure prog 178 [.agg T.row,.sl .ro (row.map GValue.row),.agg e.row] (valP (evF T row e))
 |0,e,h,_,_,_=>by have:=zu8 e;omega|n+1,e,h,hw,hg,hk=>by
  have ih:=yR9 hr hT n;have hok:=@xt8 _ _ hr n;have av:=zg6 e;have hlen:=hw.len;have ai:=hw.sub;have ak:=hg.sub;have af:=yo9 T e.s hT;rw[show wH (λc:GCol=>c.name==e.s) T.cols 0=colF T e.s from rfl]at af;obtain⟨M,hM⟩:=eX (evF T row e);rw[hM];rw[xt3]at hM;rw[zI2]at hk;have ret:∀(v:GValue)(e:Int)(σ:St),(v,e)=M->wret (some (.tup [.agg v.row,.int .i64 e])) 0 (λr s=>r=valP M/\s=[]) σ:=λv e σ h=>zp0 h;refine iV 0 func178 ntmps178 results178 λc hc hb=>?_;refine zA ?_;simp[go_sem];by_cases q1:e.kind=1
  .have ag:(e.kind==1)=true:=by simpa using q1
   rw[if_pos q1]at hM;simp[go_sem,ag];exact ret _ _ _ hM
  rw[if_neg q1]at hM hk;have ag:(e.kind==1)=false:=by simpa using q1
  by_cases q2:e.kind=2
  .have al:(e.kind==2)=true:=by simpa using q2
   rw[if_pos q2]at hM hk;by_cases w:colF T e.s<0;.rw[if_pos w]at hk;cases hk
   obtain⟨j,hj,aw⟩:=zA7 T e.s w;have ao:j<row.length:=by rw[hr.len];exact aw
   obtain⟨v,hv⟩:=eX (row[j]);rw[hj,Az,A7,A0 ao,hv]at hM;rw[hj]at af;simp[go_sem,ag,al];refine zJ af cB (zL sg rfl) rfl ?_;simp[go_sem,ao,hv];exact ret _ _ _ hM
  rw[if_neg q2]at hM hk;have al:(e.kind==2)=false:=by simpa using q2
  by_cases q3:e.kind=3;rotate_left;.rw[if_neg q3]at hk;cases hk
  rw[if_pos q3]at hk;obtain⟨args,ab⟩:=eX e.args;rw[ab]at av hlen ai ak hM hk;by_cases w1:(xR T args).2=0;rotate_left;.rw[if_pos w1]at hk;exact absurd hk w1
  have n1:¬(xR T args).2≠0:=λh=>h w1;rw[if_neg n1]at hk;by_cases w3:zk5 e.v=false;.rw[if_pos w3]at hk;cases hk
  rw[if_neg w3]at hk;have ax:zr8 e.s (xR T args).1=((zr8 e.s (xR T args).1).1,0):=Prod.ext rfl hk;have aq:=yg3 w1;have aj:(evsF T row args).2=0->All2 VK (evsF T row args).1 (xR T args).1:=λh=>hok (λx hx=>⟨by have:=zg1 args x hx;omega,ak x hx⟩) w1 h;obtain⟨K,hK⟩:=eX (evsF T row args);rw[hK]at hM aj;simp[go_sem,ag,al,ab];refine zk1 8 3 dc sg ?_;refine zH (S:=Nat×List GValue) [1,3,5,6,8,29,30,31] (λu=>[.sl .ro (row.map GValue.row),.ptr 0 0,.ptr 1 0,.ptr 2 0,.sl (.app 3) (u.2.map GValue.row),.sl .ro (args.map GExpr.row),.int .i64 args.length,.int .i64 (u.1:Int)]) (λu=>[.box T.row,.box e.row,.box [.int .i64 0,.int .i64 0,.str []],.app u.2.length 3]) (λu=>args.length-u.1) (λu=>u.1<=args.length/\u.2.length=u.1/\(evsF T row (args.drop u.1)).2=K.2/\(K.2=0->u.2++(evsF T row (args.drop u.1)).1=K.1)) hc hb (0,[]) ⟨A2 _,rfl,by simp only[B8];rw[hK],λ_=>by simp only[B8];rw[hK];rfl⟩ ?_ ?_;.exact at_n 4 (by simp[go_sem,ab]) rfl (by simp[ltOb,ltC,ltK,GExpr.row_eq,GTable.row]) (A2 _) (zC sg rfl)
  rintro⟨i,l⟩⟨hi,hl,hinv,aa⟩;simp only at hi hl hinv aa;by_cases q:i<args.length;rotate_left
  .rw[A9 om,evsF]at hinv aa;have ae:K.2=0:=hinv.symm;have ar:l=K.1:=by have:=aa ae;simpa using this
   have n2:¬K.2≠0:=λh=>h ae;rw[if_neg n2,<-ar]at hM;have hA:=aj ae;rw[<-ar]at hA;obtain⟨_,d1,d2,d3,d4⟩:=xa0 ax hA;have au:=xU2 e.s l d1 d2 d3 d4;generalize zH3 e.s l=o at au hM;refine zA ?_;simp[go_sem,q];refine pC au ?_;simp[go_sem,valP];exact zp0 hM
  have ei:=zS q om;obtain⟨x,hx⟩:=eX (args[i]);have ah:x∈args:=hx▸A8 q;have ay:=zg1 args x ah;rw[A5 q,hx,evsF]at hinv aa;have ad:=ih x om (ai x ah) (ak x ah) (aq x ah);generalize evF T row x=kx at ad hinv aa;by_cases q4:kx.2=0
  .have n3:¬kx.2≠0:=λh=>h q4;rw[if_neg n3]at hinv aa;have an:(kx.2!=0)=false:=by simpa using q4
   refine zA ?_;simp[go_sem,q,hx];refine zJ ad cB (zL sg (by rw[GExpr.row_eq];rfl)) rfl ?_;simp[go_sem,valP,an];refine zI ⟨om,by unfold uni;simp⟩ ?_;simp[go_sem,ei];refine zG (i+1,l++[kx.1]) ⟨by simp only;omega,⟨by simp only;omega,by simp;omega,hinv,λh=>by have:=aa h;simpa using this⟩,?_⟩;exact aN 4 (by simp[ltOb,ltC,ltK,GExpr.row_eq])
  .rw[if_pos q4]at hinv;have an:(kx.2!=0)=true:=by simpa using q4
   have ae:kx.2=K.2:=hinv;rw[if_pos (by rw[<-ae];exact q4),<-ae]at hM;refine zA ?_;simp[go_sem,q,hx];refine zJ ad cB (zL sg (by rw[GExpr.row_eq];rfl)) rfl ?_;simp[go_sem,valP,an];exact ret zeroV _ _ hM
def noT:GTable:=⟨[],[],0,0,0,⟨[],[],[],0,0,0⟩⟩
theorem xd0:RowOk noT []:=⟨rfl,λj C v h=>by simp[noT]at h⟩
theorem xx8:noT.cols= []:=rfl
def evN(e:GExpr):GValue×Int:=if(xW noT e).2≠0then(zeroV,(xW noT e).2)else evF noT [] e
theorem xU6{e:GExpr}(he:EOk e)(h:(evN e).2=0):VK (evN e).1 (xW noT e).1:=by
 unfold evN at h⊢;by_cases q:(xW noT e).2=0;rotate_left;.rw[if_pos q]at h;exact absurd h q
 have n1:¬(xW noT e).2≠0:=λh=>h q;rw[if_neg n1]at h⊢;have hs:=he.size;unfold xW at q⊢;by_cases d:xK e<=64;.rw[if_pos d]at q⊢;exact xa2 xd0 64 e d he.good q h
 .rw[if_neg d]at q;cases q
theorem xG8(e:GExpr)(he:EOk e):Pure prog 106 [.agg noT.row,.sl .ro [],.agg e.row] (valP (evN e)):=by
 have ab:=yv6 noT (by simp[noT,maxLen]) e he;have ad:=λ(d:xK e<=64)(k:(ze8 noT e).2=0)=>yR9 xd0 (by simp[noT,maxLen]) 64 e d he.wide he.good k;generalize hM:evN e=M;unfold evN at hM;have ret:∀(v:GValue)(e:Int)(σ:St),(v,e)=M->wret (some (.tup [.agg v.row,.int .i64 e])) 0 (λr s=>r=valP M/\s=[]) σ:=λv e σ h=>zp0 h;refine iV 0 func106 ntmps106 results106 λc hc hb=>?_;refine zA ?_;simp[go_sem];refine zJ ab cB (zL sg (by rw[GExpr.row_eq];rfl)) rfl ?_;simp[go_sem,yL];by_cases q:(xW noT e).2=0;rotate_left
 .have q':((xW noT e).2!=0)=true:=by simpa using q
  rw[if_pos q]at hM;simp[go_sem,q'];exact ret zeroV _ _ hM
 have q':((xW noT e).2!=0)=false:=by simpa using q
 have n1:¬(xW noT e).2≠0:=λh=>h q;rw[if_neg n1]at hM;have aa:Pure prog 178 [.agg noT.row,.sl .ro [],.agg e.row] (valP (evF noT [] e)):=by
  unfold xW at q;by_cases d:xK e<=64;.rw[if_pos d]at q;exact ad d q
  .rw[if_neg d]at q;cases q
 rw[hM]at aa;simp[go_sem,q',xx8];refine zH (S:=Unit) [1,3,5,6,29,30,31] (λ_=>[.sl .ro [],.ptr 0 0,.ptr 1 0,.ptr 2 0,.sl .ro [],.int .i64 0,.int .i64 0]) (λ_=>[.box noT.row,.box e.row,.box [.int .i64 0,.int .i64 0,.str []]]) (λ_=>0) (λ_=>True) hc hb () trivial ?_ ?_;.exact at_n 3 (by simp[go_sem,noT]) rfl (by simp[ltOb,ltC,ltK,GExpr.row_eq,GTable.row]) (A2 _) (zC sg rfl)
 rintro u _;refine zA ?_;simp[go_sem];refine zJ aa cB (zL sg (by rw[GExpr.row_eq];rfl)) rfl ?_;simp[go_sem,valP];exact zp0 rfl
end Go.Proofs.YtefbicjgbaaieaaGreat
namespace Go.Proofs.YtefbicjgbaaieaaGreat.R
open Go Go.Vx Go.Proofs.Tryz
set_option maxRecDepth 100000
variable {cols:List GCol}
def zo4:List GCol->List GValue->Int |c::cs,v::vs=>if mayF v=false then 9 else if v.kind=0/\c.null=false then 16 else if v.kind≠0/\v.kind≠c.kind then 15 else zo4 cs vs|_,_=>0
def mayT(cols:List GCol)(row:List GValue):Int:=if row.length≠cols.length then 9 else zo4 cols row
theorem yE0(t:GTable)(row:List GValue)(hr:row.length<=maxLen):Pure prog 149 [.agg t.row,.sl .ro (row.map GValue.row)] (.int .i64 (mayT t.cols row)):=by
 obtain⟨name,cols,key,place,region,zone⟩:=t;refine iV 0 func149 ntmps149 results149 λc hc hb=>?_;refine zA ?_;have ret:∀(r:Int)(σ:St),r=mayT cols row->wret (some (.int .i64 r)) 0 (λr s=>r=.int .i64 (mayT cols row)/\s=[]) σ:=λr σ h=>by subst h;exact wR
 simp[go_sem];refine zN (λh=>?_) (λh=>?_)
 .have h:row.length≠cols.length:=by simp at h;omega
  simp[go_sem];exact ret _ _ (by rw[mayT,if_pos h])
 have h:row.length=cols.length:=by simp at h;omega
 rw[mayT,if_neg om]at ret⊢;simp[go_sem];refine zH (S:=Nat) [2,13,14,15] (λi=>[.ptr 0 0,.sl .ro (row.map GValue.row),.int .i64 row.length,.int .i64 i]) (λ_=>[.box (GTable.row ⟨name,cols,key,place,region,zone⟩)]) (λi=>row.length-i) (λi=>i<=row.length/\zo4 (cols.drop i) (row.drop i)=zo4 cols row) hc hb 0 ⟨A2 _,rfl⟩ ?_ ?_;.exact aN 1 rfl
 rintro i⟨hi,hinv⟩;refine zA ?_;simp[go_sem];refine zN (λq=>?_) (λq=>?_)
 .have q:i<row.length:=by simpa using q
  have q2:i<cols.length:=om;have ei:=zS q (by unfold maxLen at hr;omega);rw[A5 q,A5 q2]at hinv;obtain⟨⟨k,n,s⟩,hv⟩:∃v,row[i]=v:=⟨_,rfl⟩;obtain⟨⟨cn,ck,cb⟩,ab⟩:∃v,cols[i]=v:=⟨_,rfl⟩;rw[hv,ab,zo4]at hinv;simp only at hinv;simp[go_sem,q,hv];refine pC (yp0 ⟨k,n,s⟩) ?_;simp[go_sem];refine zN (λh1=>?_) (λh1=>?_)
  .have h1:mayF ⟨k,n,s⟩=false:=by simpa using h1
   rw[if_pos h1]at hinv;simp[go_sem];exact ret _ _ hinv
  have h1:¬mayF ⟨k,n,s⟩=false:=by simpa using h1
  rw[if_neg h1]at hinv;simp[go_sem];refine zY (λh2=>?_) (λh2=>?_)
  .have aa:k=0:=by simpa using h2
   simp[go_sem,h2,q2,ab];refine zN (λh3=>?_) (λh3=>?_)
   .have h3:cb=false:=by simpa using h3
    rw[if_pos ⟨aa,h3⟩]at hinv;simp[go_sem];exact ret _ _ hinv
   have h3:¬cb=false:=by simpa using h3
   rw[if_neg (λw=>h3 w.2),if_neg (λw=>w.1 aa)]at hinv;simp[go_sem];refine yU [] 2 rfl kR kR ?_;simp[go_sem,aa,q2,ab,ei];exact zG (i+1) ⟨om,⟨q,hinv⟩,aM 1 rfl (zC (by simp[go_sem,ei]) rfl)⟩
  .have aa:¬k=0:=by simpa using h2
   rw[if_neg (λw=>aa w.1)]at hinv;simp[go_sem,h2];refine yU [] 2 rfl kR kR ?_;have ad:(k !=0)=true:=by simpa using aa
   simp[go_sem,ad,q2,ab];refine zN (λh4=>?_) (λh4=>?_)
   .have h4:¬k=ck:=by simpa using h4
    rw[if_pos ⟨aa,h4⟩]at hinv;simp[go_sem];exact ret _ _ hinv
   have h4:k=ck:=by simpa using h4
   rw[if_neg (λw=>w.2 h4)]at hinv;simp[go_sem,ei];exact zG (i+1) ⟨om,⟨q,hinv⟩,aM 1 rfl (zC (by simp[go_sem,ei]) rfl)⟩
 .have q:i=row.length:=by
   have:¬i<row.length:=by simpa using q
   omega
  subst q;rw[C6,h,C6]at hinv;simp[go_sem];exact ret _ _ hinv
def keyR(n j:Nat)(t:GTable)(row:List GValue)(rg:Int->Int×Int):Int×List UInt8×Int:=if mayT t.cols row≠0then(0,[],mayT t.cols row)else let r:=rg (if t.place=0then min (max (row.headD v0).n (-1)) 4 else 0)
  if r.2≠0then(0,[],r.2)else(r.1,zs8 n j (row.getD t.key.toNat v0),0)
def keyV(r:Int×List UInt8×Int):V:=.tup [.int .i64 r.1,.str r.2.1,.int .i64 r.2.2]
theorem zo2{r:Int×List UInt8×Int}{a e:Int}{s:List UInt8}{σ:St}(h:r=(a,s,e)):wret (some (.tup [.int .i64 a,.str s,.int .i64 e])) 0 (λv s=>v=keyV r/\s=[]) σ:=by subst h;exact wR
theorem zl1{row:List GValue}(h:mayT cols row=0):row.length=cols.length:=by
 unfold mayT at h;split at h;.cases h
 .rename_i h2;omega
theorem xp0(ae:List (List V))(ts:List GTable)(j:Nat)(hj:j<ts.length)(t:GTable)(ht:ts[j]=t)(row:List GValue)(hr:row.length<=maxLen)(hL:mayT t.cols row=0->LightR row)(hn:ts.length<=maxB)(hk:0<=t.key/\t.key<t.cols.length)(rg:Int->Int×Int)(ag:∀r,-1<=r->r<=4->(t.place≠0->r=0)->Pure prog 62 [.agg [.sl .ro ae,.sl .ro (ts.map GTable.row)],.int .i64 j,.int .i64 r] (.tup [.int .i64 (rg r).1,.int .i64 (rg r).2])):Pure prog 88 [.agg [.sl .ro ae,.sl .ro (ts.map GTable.row)],.int .i64 j,.sl .ro (row.map GValue.row)] (keyV (keyR ts.length j t row rg)):=by
 have af:=yE0 t row hr;have hbound:∀v:GValue,v.ok->v.s.length<=500->_:=λv h1 h2=>xG6 ae (ts.map GTable.row) j v (by simpa using hn) h1 h2;simp only[Ay]at hbound;generalize aa:keyR ts.length j t row rg=res;unfold keyR at aa;obtain⟨m,hm⟩:=eX (mayT t.cols row);have hlen:m=0->row.length=t.cols.length:=λh=>zl1 (hm.trans h);rw[hm]at af hL aa;obtain⟨name,cols,key,place,region,zone⟩:=t;simp only at hk hlen aa;obtain⟨q,rfl⟩:∃q:Nat,key=q:=⟨key.toNat,om⟩;refine iV 0 func88 ntmps88 results88 λc hc hb=>?_;refine zA ?_;simp[go_sem];refine pC (is_w ae (ts.map GTable.row) j) ?_;simp[go_sem,hj,ht];refine zJ af cB (zL sg rfl) rfl ?_;simp[go_sem];refine zN (λh=>?_) (λh=>?_)
 .have h:m≠0:=by simpa using h
  simp[go_sem];exact zo2 (by rw[<-aa,if_pos h])
 have h:m=0:=by simpa using h
 have hl:=hlen h;have hq:q<row.length:=om;have h0:0<row.length:=om;have ah:=hL h;obtain⟨v,hv⟩:=eX (row[q]);obtain⟨v1,ai⟩:∃v,row[0]=v:=⟨_,rfl⟩;have aj:v∈row:=hv▸A8 hq;have e1:row.headD v0=v1:=by rw[<-ai];cases row with |nil=>simp at h0|cons a l=>rfl
 have e2:row.getD q v0=v:=by rw[A7,A0 hq,hv];rfl
 rw[if_neg om,e1,Az,e2]at aa;have ak:=hbound v (ah.ok v aj) (ah.s v aj);have fin:∀(x:Int)(σ:St),(if place=0then min (max v1.n (-1)) 4 else 0)=x->((rg x).2≠0->res=(0,[],(rg x).2))/\((rg x).2=0->res=((rg x).1,zs8 ts.length j v,0)):=λx σ hx=>by rw[hx]at aa;exact⟨λw=>by rw[<-aa];exact if_pos w,λw=>by rw[<-aa];exact if_neg (λq=>q w)⟩
 simp[go_sem];refine zN (λhp=>?_) (λhp=>?_)
 .have hp:place=0:=by simpa using hp
  simp[go_sem,h0,ai];obtain⟨x,hx⟩:=eX ((if 4<if v1.n< -1then-1 else v1.n then 4 else if v1.n< -1then-1 else v1.n));have al:x=min (max v1.n (-1)) 4:=by rw[<-hx];split<;>split<;>omega
  rw[hx];have ab:=fin x [] (by rw[if_pos hp,al]);have ad:=ag x om om (λw=>absurd hp w);revert ab ad;generalize rg x=o;obtain⟨oa,oe⟩:=o;intro ab ad;simp only at ab ad;refine pC ad ?_;simp[go_sem];refine zN (λw=>?_) (λw=>?_)
  .have w:oe≠0:=by simpa using w
   simp[go_sem];exact zo2 (ab.1 w)
  have w:oe=0:=by simpa using w
  simp[go_sem];refine yU [(8,0)] 2 rfl kR kR ?_;simp[go_sem,hq,hv];refine pD ak ?_;simp[go_sem];exact zo2 (ab.2 w)
 .have hp:¬place=0:=by simpa using hp
  have ab:=fin 0 [] (by rw[if_neg hp]);have ad:=ag 0 om om (λ_=>rfl);revert ab ad;generalize rg 0=o;obtain⟨oa,oe⟩:=o;intro ab ad;simp only at ab ad;simp[go_sem];refine pC ad ?_;simp[go_sem];refine zN (λw=>?_) (λw=>?_)
  .have w:oe≠0:=by simpa using w
   simp[go_sem];exact zo2 (ab.1 w)
  have w:oe=0:=by simpa using w
  simp[go_sem];refine yU [(8,0)] 2 rfl kR kR ?_;simp[go_sem,hq,hv];refine pD ak ?_;simp[go_sem];exact zo2 (ab.2 w)
theorem xS7{n:Nat}(h:n<256):(UInt8.ofNat n).toNat=n:=by rw[UInt8.toNat_ofNat'];exact Cn h
theorem zh3:∀a:List UInt8,Op.bytesLess a a=false|[]=>rfl|a::l=>by simp[Op.bytesLess,zh3 l]
theorem zv5:∀a b c:List UInt8,Op.bytesLess a b=true->Op.bytesLess b c=true->Op.bytesLess a c=true
 |_,[],_,h,_=>by simp[Op.bytesLess]at h|_,_::_,[],_,h=>by simp[Op.bytesLess]at h|[],_::_,_::_,_,_=>rfl|a::l,b::m,d::n,h1,h2=>by
  simp only[Op.bytesLess,Bv,decide_eq_true_eq,A6,beq_iff_eq]at*;rcases h1 with h1|⟨rfl,h1⟩
  .rcases h2 with h2|⟨rfl,h2⟩;.exact .inl (UInt8.lt_trans h1 h2)
   .exact .inl h1
  .rcases h2 with h2|⟨rfl,h2⟩;.exact .inl h2
   .exact .inr ⟨rfl,zv5 l m n h1 h2⟩
theorem zA5:∀a b:List UInt8,Op.bytesLess a b=true∨a=b∨Op.bytesLess b a=true
 |[],[]=>.inr (.inl rfl)|[],_::_=>.inl rfl|_::_,[]=>.inr (.inr rfl)|a::l,b::m=>by
  simp only[Op.bytesLess,Bv,decide_eq_true_eq,A6,beq_iff_eq,List.cons.injEq];by_cases h:a<b;.exact .inl (.inl h)
  .by_cases h2:b<a;.exact .inr (.inr (.inl h2))
   .have he:a=b:=UInt8.le_antisymm (UInt8.not_lt.1 h2) (UInt8.not_lt.1 h);subst he;rcases zA5 l m with q|rfl|q;.exact .inl (.inr ⟨rfl,q⟩)
    .exact .inr (.inl ⟨rfl,rfl⟩)
    .exact .inr (.inr (.inr ⟨rfl,q⟩))
theorem zW6:∀(n i v:Nat)(rest:List UInt8),n<18446744073709551616->(n*128^i<18446744073709551616)->(0<i->0<n)->xF (varF n++rest) i v=(v+n*128^i,i+(varF n).length,0):=by intro n;induction n using Nat.strongRecOn with|_ n ih=>
  intro i v rest hn hb h0;have h9:i=9->n<=1:=λh=>by subst h;omega
  by_cases h:n<128;.have e:(UInt8.ofNat n).toNat=n:=xS7 om;rw[zT1 h];show xF (UInt8.ofNat n::rest) i v=_;rw[xF,e,if_neg om,if_pos h,if_neg om,Cn h];rfl
  .have e:(UInt8.ofNat (n%128+128)).toNat=n%128+128:=xS7 om;rw[yc9 h];show xF (UInt8.ofNat (n%128+128)::(varF (n/128)++rest)) i v=_;rw[xF,e,if_neg om,if_neg om];have hdiv:n/128*128^(i+1)<=n*128^i:=by rw[Eb,Bz (128^i) 128,<-Eg];exact An _ (Nat.div_mul_le_self n 128)
   rw[ih (n/128) om (i+1) _ rest om om (λ_=>om)];have e2:(n%128+128)%128=n%128:=om;rw[e2,Ah];have e3:n%128*128^i+n/128*128^(i+1)=n*128^i:=by rw[Eb,Bz (128^i) 128,<-Eg,<-Am];congr 1;omega
   rw[By,e3];congr 2;omega
theorem xQ5(n:Int):zagF (zigF n)=n:=by
 unfold zagF zigF;by_cases h:0<=n;.rw[if_pos h,if_pos om];omega
 .rw[if_neg h,if_neg om];omega
theorem zO6{v:GValue}(h:mayF v=true):(v.kind=0/\v.n=0/\v.s=[])∨(v.kind=1/\(v.n=0∨v.n=1)/\v.s=[])∨(v.kind=2/\v.s=[])∨(v.kind=3/\v.n=0/\v.s.length<=64):=by have hk:=zO5 h;unfold mayF at h;rcases hk with hk|hk|hk|hk<;>rw[hk]at h⊢<;>simp at h⊢<;>exact h
theorem yO7{v:GValue}(h:mayF v=true)(ho:v.ok)(rest:List UInt8):zf4 (zb6 v++rest)=⟨v,(zb6 v).length,0⟩:=by
 have hp:=zO6 h;have hi:=ho.n;obtain⟨k,n,s⟩:=v;simp only at hp hi;unfold zb6;rw[if_pos h];simp only;rcases hp with⟨rfl,rfl,rfl⟩|⟨rfl,hn,rfl⟩|⟨rfl,rfl⟩|⟨rfl,rfl,hl⟩;.simp[zf4,zc4,v0]
 .rcases hn with rfl|rfl<;>simp[zf4,zc4,za1]
 .have hz:=yD7 hi;have:=zW6 (zigF n) 0 0 rest hz (by simpa using hz) (λh=>om);simp[zf4,zc4,this,xQ5];omega
 .have ht:=zW6 s.length 0 0 (s++rest) om om (λh=>om);have aa:wS (varF s.length++(s++rest))=(s,(varF s.length).length+s.length,0):=by
   unfold wS;rw[ht];have e1:(varF s.length++(s++rest)).take ((varF s.length).length+s.length)=varF s.length++s:=by rw[<-Bp,Cx sm,Av sm]
   unfold yD;simp only[Ab,Nat.pow_zero,Nat.mul_one,e1,List.drop_left];rw[if_neg sm,if_neg om,if_neg sm]
  have ab:¬64<s.length:=om;simp[zf4,zc4,aa,ab];omega
theorem yt6:∀(l:List GValue),(∀v∈l,mayF v=true)->(∀v∈l,v.ok)->rowG l.length (l.flatMap zb6)=some l
 |[],_,_=>by simp[rowG]|v::l,h,ho=>by have h1:=yO7 (h v sm) (ho v sm) (l.flatMap zb6);have h2:=yt6 l (λx hx=>h x (by simp[hx])) (λx hx=>ho x (by simp[hx]));rw[Ah,rowG,Bm,h1];simp[h2]
theorem zZ0:∀(cs:List GCol)(vs:List GValue),vs.length=cs.length->zo4 cs vs=0->∀i(hi:i<cs.length)(hj:i<vs.length),mayF vs[i]=true/\(cs[i].null=false->vs[i].kind=cs[i].kind)
 |[],[],_,_,i,hi,_=>by simp at hi|c::cs,v::vs,hl,h,i,hi,hj=>by
  unfold zo4 at h;split at h;.cases h
  .rename_i h1;split at h;.cases h
   .rename_i h2;split at h;.cases h
    .rename_i h3;cases i with |zero=>refine⟨by simpa using h1,λhn=>?_⟩;have hn:c.null=false:=hn;have:v.kind≠0:=λq=>h2 ⟨q,hn⟩;exact Decidable.not_not.1 λq=>h3 ⟨this,q⟩|succ i=>exact zZ0 cs vs (by simpa using hl) h i (by simpa using hi) (by simpa using hj)
 |[],_::_,hl,_,_,_,_=>by simp at hl|_::_,[],hl,_,_,_,_=>by simp at hl
theorem xj8{row:List GValue}(h:mayT cols row=0):zo4 cols row=0:=by
 unfold mayT at h;split at h;.cases h
 .exact h
theorem yK2{row:List GValue}(h:mayT cols row=0):∀v∈row,mayF v=true:=λv hv=>by obtain⟨i,hi,rfl⟩:=List.mem_iff_getElem.1 hv;exact(zZ0 cols row (zl1 h) (xj8 h) i (by rw[<-zl1 h];exact hi) hi).1
theorem xB6{row:List GValue}(h:mayT cols row=0)(hL:LightR row):rowC cols.length (yN row)=(row,0):=by
 have hl:=zl1 h;have aa:=hL.len;have ht:=zW6 row.length 0 0 (row.flatMap zb6) om om (λh=>om);have hd:yN row=varF row.length++row.flatMap zb6:=by unfold yN zG1;rw[Df]
 unfold rowC;rw[hd,ht];simp[<-hl,yt6 row (yK2 h) hL.ok,rowR]
end Go.Proofs.YtefbicjgbaaieaaGreat.R
namespace Go.Proofs.YtefbicjgbaaieaaGreat
open Go Go.Vx R Go.Proofs.Tryz
set_option maxRecDepth 100000
end Go.Proofs.YtefbicjgbaaieaaGreat
namespace Go.Vx
open Go
end Go.Vx
namespace Go.Proofs.YtefbicjgbaaieaaGreat
open Go Go.Vx R Go.Proofs.Tryz
set_option maxRecDepth 100000
end Go.Proofs.YtefbicjgbaaieaaGreat
namespace Go.Proofs.YtefbicjgbaaieaaGreat
open Go Go.Vx R Go.Proofs.Tryz
set_option maxRecDepth 100000
def yF6(v:GValue)(C:GCol):Bool:=mayF v&&(v.kind==0||v.kind==C.kind)
def zE5(cs:List GCol)(row:List GValue):Bool:=decide (row.length=cs.length)&&(row.zip cs).all λp=>yF6 p.1 p.2
theorem ys4{T:GTable}{row:List GValue}(h:zE5 T.cols row=true)(hv:∀v∈row,v.ok):RowOk T row:=by
 unfold zE5 at h;rw[A6,decide_eq_true_eq]at h;refine⟨h.1,λj C v hC hV=>?_⟩;have hz:(row.zip T.cols)[j]?=some (v,C):=by rw[List.getElem?_zip_eq_some];exact⟨hV,hC⟩
 have h2:=Af.1 h.2 _ (B7 hz);unfold yF6 at h2;simp only[A6,Bv,beq_iff_eq]at h2;have aa:=hv v (B7 hV);exact⟨h2.1,⟨aa.n.1,aa.n.2⟩,h2.2.elim .inr .inl⟩
def evR(T:GTable)(row:List GValue)(e:GExpr):GValue×Int:=if(xW T e).2≠0then(zeroV,(xW T e).2)else if zE5 T.cols row=false then(zeroV,9)else evF T row e
theorem xt6(e:GExpr):evR noT [] e=evN e:=rfl
section
variable{b:List V}{rows:List (List V)}{A:List Nat}{τ:St}
end
theorem xZ0{v:GValue}{k:Int}(h:VK v k):v.ok/\v.s.length<=500:=by
 have hm:=h.may;have hn:=h.n;unfold mayF at hm;have:i64R v.kind/\v.s.length<=64:=by
  unfold i64R;split at hm;.rename_i q;rw[q];simp at hm;exact⟨dc,by rw[hm.2];decide⟩
  split at hm;.rename_i q;rw[q];simp at hm;exact⟨dc,by rw[hm.2];decide⟩
  split at hm;.rename_i q;rw[q];simp at hm;exact⟨dc,by rw[hm];decide⟩
  split at hm;.rename_i q;rw[q];simp at hm;exact⟨dc,hm.2⟩
  .cases hm
 exact⟨⟨this.1,hn,by unfold maxLen;omega⟩,om⟩
theorem yd9:∀(n:Nat)(q l:List GExpr),(∀e∈q,Good e)->(∀e∈l,Good e)->∀e∈bfs n q l,Good e
 |0,_,_,_,hl=>hl|n+1,[],_,_,hl=>by rw[bfs];exact hl|n+1,x::q,l,hq,hl=>by
  have hx:=hq x (Bb ..);have aa:∀e∈q,Good e:=λe he=>hq e (B4 _ he)
  rw[bfs];split;.exact yd9 n _ _ (λe he=>by
    rcases Aq.1 he with he|he;.exact aa e he
    .exact hx.sub e he) hl
  .exact yd9 n _ _ aa (λe he=>by
    rcases Aq.1 he with he|he;.exact hl e he
    .rw[Ci]at he;subst he;exact hx)
theorem xE2{st:GStmt}(h:Good st.where_):VOk st:=λe he name s v ha=>by
 have hg:Good e:=by
  unfold zt4 at he;split at he;.exact yd9 4096 [st.where_] [] (λe he=>by rw[Ci]at he;subst he;exact h) (λe he=>by cases he) e he
  .cases he
 have aa:∃a∈e.args,a.v=v:=by
  unfold ze9 at ha;split at ha
  .rename_i a b heq ab;rw[ab];split at ha
   .split at ha;.cases ha;exact⟨a,sm,rfl⟩
    .cases ha
   .split at ha;.cases ha;exact⟨b,sm,rfl⟩
    .cases ha
  .cases ha
 obtain⟨a,ad,rfl⟩:=aa;exact(hg.sub a ad).v
def okP(r:Int)(e:GExpr):Bool:=match ze9 e [82]with|none=>true|some (s,v)=>!(s==[61]&&(v.kind==2&&!(v.n==r)))
theorem yw3:∀(l:List GExpr)(rs:List Int),cutR l rs=rs.filter λr=>l.all (okP r)
 |[],rs=>(Dw.2 λ_ _=>rfl).symm|e::l,rs=>by
  have ih:=yw3 l;have h:cutR (e::l) rs=cutR l (match ze9 e [82]with|none=>rs|some (s,v)=>if s=[61]/\v.kind=2then zk3 v.n rs else rs):=rfl;rw[h,ih];have h2:(match ze9 e [82]with|none=>rs|some (s,v)=>if s=[61]/\v.kind=2then zk3 v.n rs else rs)=rs.filter (okP · e):=by unfold okP;cases ze9 e [82]with |none=>exact(Dw.2 λ_ _=>rfl).symm|some p=>
    obtain⟨s,v⟩:=p;simp only;by_cases q:s=[61]/\v.kind=2
    .rw[if_pos q];unfold zk3;refine Em λr _=>?_;rw[q.1,q.2];by_cases w:r=v.n;.subst w;simp
     .have w1:(r==v.n)=false:=by simpa using w
      have w2:(v.n==r)=false:=by simpa usingλh=>w h.symm
      rw[w1,w2];rfl
    .rw[if_neg q];refine(Dw.2 λr _=>?_).symm;by_cases q1:s=[61]
     .have q2:(v.kind==2)=false:=by simpa usingλh=>q ⟨q1,h⟩
      rw[q2];simp
     .have aa:(s==[61])=false:=by simpa using q1
      rw[aa];rfl
  rw[h2,List.filter_filter];refine Em λr _=>?_;rw[Ap,Bool.and_comm]
def zS1(tn:Nat)(row:List GValue):Int:=if tn=0then(row.getD 0 zeroV).n else if tn=1then-1 else 1
theorem yU9(t:GTable)(row:List GValue)(hr:row.length<=maxLen):Pure prog 47 [.agg t.row,.sl .ro (row.map GValue.row)] (.int .i64 (mayT t.cols row)):=by
 obtain⟨name,cols,key,place,region,zone⟩:=t;refine iV 0 func47 ntmps47 results47 λc hc hb=>?_;refine zA ?_;have ret:∀(r:Int)(σ:St),r=mayT cols row->wret (some (.int .i64 r)) 0 (λr s=>r=.int .i64 (mayT cols row)/\s=[]) σ:=λr σ h=>by subst h;exact wR
 simp[go_sem];refine zN (λh=>?_) (λh=>?_)
 .have h:row.length≠cols.length:=by simp at h;omega
  simp[go_sem];exact ret _ _ (by rw[mayT,if_pos h])
 have h:row.length=cols.length:=by simp at h;omega
 rw[mayT,if_neg om]at ret⊢;simp[go_sem];refine zH (S:=Nat) [1,2,5] (λi=>[.sl .ro (row.map GValue.row),.ptr 0 0,.int .i64 i]) (λ_=>[.box (GTable.row ⟨name,cols,key,place,region,zone⟩)]) (λi=>row.length-i) (λi=>i<=row.length/\zo4 (cols.drop i) (row.drop i)=zo4 cols row) hc hb 0 ⟨A2 _,rfl⟩ ?_ ?_;.exact aN 1 rfl
 rintro i⟨hi,hinv⟩;refine zA ?_;simp[go_sem];refine zN (λq=>?_) (λq=>?_)
 .have q:i<row.length:=by simpa using q
  have q2:i<cols.length:=om;have ei:=zS q (by unfold maxLen at hr;omega);rw[A5 q,A5 q2]at hinv;obtain⟨⟨k,n,s⟩,hv⟩:∃v,row[i]=v:=⟨_,rfl⟩;obtain⟨⟨cn,ck,cb⟩,ab⟩:∃v,cols[i]=v:=⟨_,rfl⟩;rw[hv,ab,zo4]at hinv;simp only at hinv;simp[go_sem,q,hv];refine pC (zS0 ⟨k,n,s⟩) ?_;simp[go_sem];refine zN (λh1=>?_) (λh1=>?_)
  .have h1:mayF ⟨k,n,s⟩=false:=by simpa using h1
   rw[if_pos h1]at hinv;simp[go_sem];exact ret _ _ hinv
  have h1:¬mayF ⟨k,n,s⟩=false:=by simpa using h1
  rw[if_neg h1]at hinv;simp[go_sem,q,hv];refine zY (λh2=>?_) (λh2=>?_)
  .have aa:k=0:=by simpa using h2
   simp[go_sem,h2,q2,ab];refine zN (λh3=>?_) (λh3=>?_)
   .have h3:cb=false:=by simpa using h3
    rw[if_pos ⟨aa,h3⟩]at hinv;simp[go_sem];exact ret _ _ hinv
   have h3:¬cb=false:=by simpa using h3
   rw[if_neg (λw=>h3 w.2),if_neg (λw=>w.1 aa)]at hinv;simp[go_sem];refine yU [] 1 rfl kR kR ?_;simp[go_sem,aa,q,hv,ei];exact zG (i+1) ⟨om,⟨q,hinv⟩,aN 1 rfl⟩
  .have aa:¬k=0:=by simpa using h2
   rw[if_neg (λw=>aa w.1)]at hinv;simp[go_sem,h2];refine yU [] 1 rfl kR kR ?_;have ad:(k !=0)=true:=by simpa using aa
   simp[go_sem,ad,q,hv,q2,ab];refine zN (λh4=>?_) (λh4=>?_)
   .have h4:¬k=ck:=by simpa using h4
    rw[if_pos ⟨aa,h4⟩]at hinv;simp[go_sem];exact ret _ _ hinv
   have h4:k=ck:=by simpa using h4
   rw[if_neg (λw=>w.2 h4)]at hinv;simp[go_sem,ei];exact zG (i+1) ⟨om,⟨q,hinv⟩,aN 1 rfl⟩
 .have q:¬i<row.length:=by simpa using q
  have ae:i=row.length:=om;have e:row.drop i=[]:=A9 om;rw[e]at hinv;simp[go_sem];exact ret _ _ (by rw[<-hinv];cases List.drop i cols<;>rfl)
theorem zZ2(t r:Int)(h:(t=0/\(r=0∨r=1))∨(t=1/\r=0)∨(t=2/\r=0)):Pure prog 49 [schR tabsS,.int .i64 t,.int .i64 r] (zP0 (wP t r)):=by rcases h with⟨rfl,rfl|rfl⟩|⟨rfl,rfl⟩|⟨rfl,rfl⟩;all_goals exact zj1 zg9 zd3 marks 10000 kR
theorem xm4(i:Int)(h0:0<=i)(h4:i<4):Pure prog 48 [schR tabsS,.int .i64 i] (.bool (decide (i<2))):=by have h:i=0∨i=1∨i=2∨i=3:=om;rcases h with rfl|rfl|rfl|rfl;all_goals exact zj1 zg9 zd3 marks 10000 kR
def keyS(tn:Nat)(T:GTable)(row:List GValue):Int×List UInt8×Int:=if mayT T.cols row≠0then(0,[],mayT T.cols row)else if tn=0/\¬((row.getD 0 zeroV).n=0∨(row.getD 0 zeroV).n=1)then(0,[],19)else((wP tn (zS1 tn row)).1,zs8 3 tn (row.getD T.key.toNat zeroV),0)
theorem xm6(tn:Nat)(T:GTable)(hT:tabsS[tn]?=some T)(row:List GValue)(hr:row.length<=maxLen)(hv:∀v∈row,v.ok):Pure prog 24 [schR tabsS,.int .i64 tn,.sl .ro (row.map GValue.row)] (keyV (keyS tn T row)):=by
 obtain⟨an,ax⟩:=A1.1 hT;have h3:tn<3:=an;obtain⟨a6,a7⟩:=(by decide:∀T∈tabsS,0<=T.key/\T.key<T.cols.length) T (ax▸A8 an);have ak:=yU9 T row hr;have ay:=yc3 yT (tabsS.map GTable.row) tn;have hlen:=λh=>zl1 (cols:=T.cols) (row:=row) h;generalize aa:keyS tn T row=res;unfold keyS at aa;generalize mayT T.cols row=m at ak hlen aa;have ao:T.place=0↔tn=0:=by match tn,h3 with |0,_=>cases hT;decide|1,_=>cases hT;decide|2,_=>cases hT;decide
 refine iV 0 func24 ntmps24 results24 λc hc hb=>?_;refine zA ?_;simp[go_sem,schR];refine zJ ay cB (zL sm rfl) rfl ?_;simp[go_sem,an,ax];refine zJ ak cB (zL sg rfl) rfl ?_;by_cases w0:m=0;rotate_left
 .have ag:(m !=0)=true:=by simpa using w0
  rw[if_pos w0]at aa;simp[go_sem,ag];exact zo2 aa.symm
 have ag:(m !=0)=false:=by simpa using w0
 rw[if_neg (λh=>h w0)]at aa;have hl:=hlen w0;obtain⟨q,hq⟩:∃q:Nat,T.key=q:=⟨T.key.toNat,om⟩;have ah:q<row.length:=om;have ab:0<row.length:=om;obtain⟨kv,ai⟩:∃v,row[q]=v:=⟨_,rfl⟩;obtain⟨v0,ad⟩:∃v,row[0]=v:=⟨_,rfl⟩;have e2:row.getD T.key.toNat zeroV=kv:=by rw[hq,Az,A7,A0 ah,ai];rfl
 have e0:row.getD 0 zeroV=v0:=by rw[A7,A0 ab,ad];rfl
 have aj:=yM1 yT (tabsS.map GTable.row) tn kv dc (hv kv (ai▸A8 ah));rw[show(tabsS.map GTable.row).length=3from rfl]at aj;have al:zS1 tn row=if tn=0then v0.n else if tn=1then-1 else 1:=by unfold zS1;rw[e0]
 rw[e2,e0]at aa;generalize zs8 3 tn kv=bd at aj aa;obtain⟨pl,ae⟩:=eX T.place;rw[ae]at ao;by_cases wp:pl=0;rotate_left
 .have aq:(pl==0)=false:=by simpa using wp
  have af:¬tn=0:=λh=>wp (ao.2 h);rw[if_neg (λh=>af h.1)]at aa;have ar:=zZ2 tn 0 om;have az:(wP tn 0).1=(wP tn (zS1 tn row)).1:=by match tn,h3,af with |1,_,_=>rfl|2,_,_=>rfl
  rw[<-az]at aa;simp[go_sem,ag,ae,aq];refine zJ ar cB (zL (by simp[go_sem,schR]) rfl) rfl ?_;simp[go_sem,zP0];refine yR [(8,0)] 2 sm kR kR ?_;simp[go_sem,hq,ah,ai];refine xE aj cB (λ_=>zL sg rfl) rfl ?_;simp[go_sem];exact zo2 aa.symm
 have aq:(pl==0)=true:=by simpa using wp
 have af:tn=0:=ao.1 wp;rw[if_pos af]at al;have bad:¬(v0.n=0∨v0.n=1)->(0,[],19)=res:=λh=>by rw[if_pos ⟨af,h⟩]at aa;exact aa
 have good:(v0.n=0∨v0.n=1)->((wP tn v0.n).1,bd,0)=res:=λh=>by rw[if_neg (λg=>g.2 h),al]at aa;exact aa
 clear aa;simp[go_sem,ag,ae,aq];refine yR [(18,0)] 2 sm kR kR ?_;simp[go_sem,ab,ad];by_cases c1:v0.n<0;.have au:decide (v0.n<0)=true:=decide_eq_true c1;simp[go_sem,au];exact zo2 (bad om).symm
 have au:decide (v0.n<0)=false:=decide_eq_false c1;simp[go_sem,au,ab,ad];by_cases c2:4<=v0.n;.have av:decide (4<=v0.n)=true:=decide_eq_true c2;simp[go_sem,av];exact zo2 (bad om).symm
 have av:decide (4<=v0.n)=false:=decide_eq_false c2;simp[go_sem,av,ab,ad];refine xE (xm4 v0.n om om) cB (λ_=>zL (by simp[go_sem,schR]) rfl) rfl ?_;by_cases c3:v0.n<2;rotate_left;.have aw:decide (v0.n<2)=false:=decide_eq_false c3;simp[go_sem,aw];exact zo2 (bad om).symm
 have aw:decide (v0.n<2)=true:=decide_eq_true c3;have a1:=good om;have ar:=zZ2 tn v0.n om;simp[go_sem,aw,ab,ad];refine zJ ar cB (zL (by simp[go_sem,schR]) rfl) rfl ?_;simp[go_sem,zP0];refine yR [(8,0)] 2 sm kR kR ?_;simp[go_sem,hq,ah,ai];refine xE aj cB (λ_=>zL sg rfl) rfl ?_;simp[go_sem];exact zo2 a1.symm
end Go.Proofs.YtefbicjgbaaieaaGreat
namespace Go.Proofs.YtefbicjgbaaieaaGreat
open Go Go.Vx Go.Proofs.Tryz
set_option maxRecDepth 100000
variable {α:Type}
abbrev Pl:=Int×List UInt8
def plV(p:Pl):V:=.agg [.int .i64 p.1,.str p.2]
abbrev kPl:Kk:= .st [.i .i64,.s]
def kvE{α:Type}(g:α->V):List (Pl×α)->List V|[]=>[]|e::W=>plV e.1::g e.2::kvE g W
structure Mp(α:Type)where
 W:List (Pl×α)bs:List Nat
 clk:Nat
def Mp.ob(g:α->V)(m:Mp α):Ob:=.mp (kvE g m.W) m.bs m.clk
structure Mp.ok{α:Type}(m:Mp α):Prop where
 len:m.bs.length=m.W.length
 nd:m.bs.Nodup
 lt:∀b∈m.bs,b<m.clk
 keys:(m.W.map (·.1)).Nodup
def mp0 (α:Type):Mp α:=⟨[],[],0⟩
theorem xx7(α:Type):(mp0 α).ok:=⟨rfl,D0,λb hb=>(by cases hb),D0⟩
def idxW{α:Type}(p:Pl):List (Pl×α)->Option (Nat×α) |[]=>none|e::W=>if e.1=p then some (0,e.2)else(idxW p W).map λq=>(q.1+1,q.2)
def Mp.at(m:Mp α)(p:Pl):Option (Nat×α):=idxW p m.W
def Mp.get(m:Mp α)(p:Pl):Option α:=(m.at p).map (·.2)
def Mp.put(m:Mp α)(p:Pl)(v:α):Mp α:=match m.at p with |some (i,_)=>⟨m.W.set i (p,v),m.bs,m.clk⟩|none=>⟨m.W++[(p,v)],m.bs++[m.clk],m.clk+1⟩
def Mp.del(m:Mp α)(p:Pl):Mp α:=match m.at p with |some (i,_)=>⟨m.W.eraseIdx i,m.bs.eraseIdx i,m.clk⟩|none=>m
theorem eqPl(p q:Pl):eqKk kPl (plV p) (plV q)=some (decide (p=q)):=by obtain⟨a,b⟩:=p;obtain⟨c,d⟩:=q;simp only[eqKk,plV,eqVs,eqPk,and_self,if_true,Aw,B9,Ck,Option.some.injEq];rw[Du];simp
theorem xR8(p:Pl):zo1 kPl (plV p)=true:=by simp[zo1,plV,zb2,ze5]
section
variable {α:Type} {g:α->V}
variable{m:Mp α}{p:Pl}{σ:St}{z:α}{i:Nat}{r:Int}{k:List UInt8}
theorem yx8(p:Pl):∀(W:List (Pl×α))(i:Nat),zi8 kPl (plV p) (kvE g W) i=some ((idxW p W).map λq=>(i+q.1,g q.2))
 |[],_=>rfl|e::W,i=>by
  rw[kvE,zi8,eqPl,idxW];by_cases h:e.1=p;.rw[if_pos h];simp[h]
  .rw[if_neg h];have:decide (p=e.1)=false:=decide_eq_false λq=>h q.symm;rw[this];simp only;rw[yx8 p W (i+1)];cases idxW p W with|none=>rfl|some q=>simp;omega
theorem xa5(m:Mp α)(p:Pl):zi8 kPl (plV p) (kvE g m.W) 0=some ((m.at p).map λq=>(q.1,g q.2)):=by rw[yx8];simp[Mp.at]
theorem zj7{p:Pl}{i:Nat}{v:α}:∀{W:List (Pl×α)},idxW p W=some (i,v)->W[i]?=some (p,v)
 |[],h=>by simp[idxW]at h|e::W,h=>by
  rw[idxW]at h;by_cases q:e.1=p;.rw[if_pos q]at h;simp only[Option.some.injEq,Prod.mk.injEq]at h;obtain⟨rfl,rfl⟩:=h;simp[<-q]
  .rw[if_neg q]at h;simp only[Ba,Prod.mk.injEq]at h;obtain⟨⟨j,u⟩,h1,rfl,rfl⟩:=h;simpa using zj7 h1
theorem zL1{p:Pl}:∀{W:List (Pl×α)},idxW p W=none->∀e∈W,e.1≠p
 |[],_,e,he=>by cases he|e::W,h,x,hx=>by
  rw[idxW]at h;by_cases q:e.1=p;.rw[if_pos q]at h;cases h
  .rw[if_neg q]at h;simp only[Option.map_eq_none_iff]at h;rcases Ag.1 hx with rfl|hx;.exact q
   .exact zL1 h x hx
theorem xa9{p:Pl}{v:α}:∀{W:List (Pl×α)},(W.map (·.1)).Nodup->(p,v)∈W->∃i,idxW p W=some (i,v)
 |[],_,h=>by cases h|e::W,hn,h=>by
  rw[Al,Cc]at hn;rw[idxW];rcases Ag.1 h with rfl|h;.exact⟨0,if_pos rfl⟩
  .have:e.1≠p:=λq=>hn.1 (Ac.2 ⟨(p,v),h,q.symm⟩);obtain⟨i,hi⟩:=xa9 hn.2 h;exact⟨i+1,by rw[if_neg this,hi];rfl⟩
theorem Mp.get_mem(hm:m.ok){v:α}:m.get p=some v↔(p,v)∈m.W:=by
 constructor;.intro h;unfold Mp.get Mp.at at h;rw[Ba]at h;obtain⟨⟨i,u⟩,h1,rfl⟩:=h;exact B7 (zj7 h1)
 .intro h;obtain⟨i,hi⟩:=xa9 hm.keys h;unfold Mp.get Mp.at;rw[hi];rfl
theorem ys2(W:List (Pl×α))(p:Pl)(v:α):kvE g W++[plV p,g v]=kvE g (W++[(p,v)]):=by induction W with|nil=>rfl|cons e W ih=>rw[kvE,Bo,Bo,ih];rfl
theorem xw9(p:Pl)(v:α):∀(W:List (Pl×α))(i:Nat),zw9 (kvE g W) i (plV p) (g v)=kvE g (W.set i (p,v))
 |[],i=>by simp[zw9,kvE]|e::W,0=>by simp[zw9,kvE]|e::W,i+1=>by have ih:=xw9 p v W i;unfold zw9 at ih⊢;rw[show 2*(i+1)=2*i+1+1by omega,kvE];simp only[Ca];rw[ih];rfl
theorem yS6(v:α):∀(W:List (Pl×α))(i:Nat)(p:Pl)(u:α),W[i]?=some (p,u)->(kvE g W).set (2*i+1) (g v)=kvE g (W.set i (p,v))
 |[],i,_,_,h=>by simp at h|e::W,0,p,u,h=>by simp at h;subst h;simp[kvE]|e::W,i+1,p,u,h=>by have ih:=yS6 v W i p u (by simpa using h);rw[show 2*(i+1)+1=2*i+1+1+1by omega,kvE];simp only[Ca];rw[ih];rfl
theorem xw8:∀(W:List (Pl×α))(i:Nat),i<W.length->zQ2 (kvE g W) i=kvE g (W.eraseIdx i)
 |[],i,h=>by simp at h|e::W,0,_=>by simp[zQ2,kvE]|e::W,i+1,h=>by have ih:=xw8 W i (by simpa using h);unfold zQ2 at ih⊢;rw[show 2*(i+1)=2*i+1+1by omega,show 2*i+1+1+2=2*i+2+1+1by omega,kvE];simp only[C1,Dn,Bo];rw[ih];rfl
theorem yb8{z:V}{id:Nat}(hσ:σ[id]?=some (m.ob g))(p:Pl)(ok:Bool):xY (some (kPl,z)) σ (.mp id) (plV p) ok=.ok (match m.get p with |some v=>if ok then .tup [g v,.bool true]else g v|none=>if ok then .tup [z,.bool false]else z):=by unfold xY;simp only[xR8,if_true,hσ,Mp.ob,xa5];unfold Mp.get;cases m.at p<;>rfl
def Mp.ent{α:Type}(m:Mp α)(p:Pl)(z:α):Mp α:=match m.at p with|some _=>m|none=>⟨m.W++[(p,z)],m.bs++[m.clk],m.clk+1⟩
def Mp.stamp{α:Type}(m:Mp α)(p:Pl):Nat:=match m.at p with |some (i,_)=>m.bs.getD i 0|none=>m.clk
theorem xs7{id:Nat}(hm:m.ok)(hσ:σ[id]?=some (m.ob g))(p:Pl):wC (some (kPl,g z)) σ (.mp id) (plV p)=(match m.at p with |some (_,v)=>.ok (.tup [g v,.int .i64 (m.stamp p:Int)])|none=>.st (.tup [g z,.int .i64 (m.stamp p:Int)]) (σ.set id ((m.ent p z).ob g))):=by unfold wC Mp.stamp Mp.ent;simp only[xR8,if_true,hσ,Mp.ob,xa5];cases h:m.at p with|none=>simp only[Option.map_none,ys2]|some q=>
  have:=(A1.1 (zj7 (W:=m.W) (i:=q.1) (v:=q.2) h)).1;have hb:m.bs[q.1]?=some (m.bs.getD q.1 0):=by rw[A7,A0 (by rw[hm.len];exact this)];rfl
  simp only[B9,hb]
theorem yf4{bs:List Nat}(hn:bs.Nodup){b:Nat}(h:bs[i]?=some b):bs.findIdx? (λ(x:Nat)=>((x:Int)==(b:Int)))=some i:=by obtain⟨hi,rfl⟩:=A1.1 h;rw[List.findIdx?_eq_some_iff_getElem];refine⟨hi,sm,λj hj=>?_⟩;intro q;rw[beq_iff_eq]at q;exact absurd ((List.getElem_inj hn).1 (Int.ofNat.inj q)) om
theorem yq4{id:Nat}(hm:m.ok)(hg:∀v,wO (g v)=true)(p:Pl)(hσ:σ[id]?=some ((m.ent p z).ob g))(v:α):xO σ (.mp id) (.int .i64 (m.stamp p:Int)) (g v)=.st .u (σ.set id ((m.put p v).ob g)):=by unfold xO;simp only[hg,if_true,hσ];unfold Mp.ob Mp.ent Mp.stamp Mp.put;cases h:m.at p with
 |none=>
  have hf:(m.bs++[m.clk]).findIdx? (λ(b:Nat)=>((b:Int)==(m.clk:Int)))=some m.W.length:=by
   refine yf4 ?_ ?_;.rw[Dj];refine⟨hm.nd,sm,λa ha b hb=>?_⟩;have:=hm.lt a ha;simp at hb;omega
   .rw[<-hm.len];simp
  simp only[hf];rw[yS6 v (m.W++[(p,z)]) m.W.length p z sm];simp|some q=>
  have h1:=zj7 (W:=m.W) (i:=q.1) (v:=q.2) h;have hl:=(A1.1 h1).1;have hb:m.bs[q.1]?=some (m.bs.getD q.1 0):=by rw[A7,A0 (by rw[hm.len];exact hl)];rfl
  simp only[yf4 hm.nd hb];rw[yS6 v m.W q.1 p q.2 h1]
theorem Mp.ent_ok(hm:m.ok)(p:Pl)(z:α):(m.ent p z).ok:=by unfold Mp.ent;cases h:m.at p with |some q=>exact hm|none=>
  refine⟨by simp[hm.len],?_,λb hb=>?_,?_⟩;.rw[Dj];refine⟨hm.nd,sm,λa ha b hb=>?_⟩;have:=hm.lt a ha;simp at hb;omega
  .rcases Aq.1 hb with hb|hb;.have:=hm.lt b hb;show b<m.clk+1;omega
   .simp at hb;subst hb;exact Es _
  .rw[Dm,Dj];refine⟨hm.keys,sm,λa ha b hb=>?_⟩;obtain⟨e,he,rfl⟩:=Ac.1 ha;simp at hb;subst hb;exact zL1 h e he
theorem Mp.put_ok(hm:m.ok)(p:Pl)(v:α):(m.put p v).ok:=by unfold Mp.put;cases h:m.at p with
 |some q=>
  have h1:=zj7 (W:=m.W) (i:=q.1) (v:=q.2) h;have:((m.W.set q.1 (p,v)).map (·.1))=m.W.map (·.1):=by rw[List.map_set];exact yE _ _ _ (by rw[B0,h1];rfl)
  exact⟨by simp[hm.len],hm.nd,hm.lt,by rw[this];exact hm.keys⟩|none=>have:=Mp.ent_ok hm p v;unfold Mp.ent at this;rw[h]at this;exact this
theorem Mp.del_ok(hm:m.ok)(p:Pl):(m.del p).ok:=by unfold Mp.del;cases h:m.at p with
 |some q=>
  refine⟨?_,List.Nodup.sublist (List.eraseIdx_sublist _ _) hm.nd,λb hb=>hm.lt b (List.mem_of_mem_eraseIdx hb),?_⟩;.simp only[List.length_eraseIdx,hm.len]
  .exact List.Nodup.sublist ((List.eraseIdx_sublist m.W q.1).map _) hm.keys|none=>exact hm
theorem Mp.ent_some{q:Nat×α}(h:m.at p=some q):m.ent p z=m:=by unfold Mp.ent;rw[h]
theorem zy3{p:Pl}{v:α}:∀{W:List (Pl×α)},idxW p W=none->idxW p (W++[(p,v)])=some (W.length,v)
 |[],_=>by simp[idxW]|e::W,h=>by
  rw[idxW]at h;by_cases q:e.1=p;.rw[if_pos q]at h;cases h
  .rw[if_neg q,Option.map_eq_none_iff]at h;rw[Bo,idxW,if_neg q,zy3 h];rfl
theorem Mp.ent_get(h:m.at p=none):(m.ent p z).get p=some z:=by unfold Mp.get Mp.at Mp.ent;rw[h];simp only;unfold Mp.at at h;rw[zy3 h];rfl
theorem Mp.get_none(h:m.at p=none):m.get p=none:=by unfold Mp.get;rw[h];rfl
theorem Mp.get_some{v:α}(h:m.at p=some (i,v)):m.get p=some v:=by unfold Mp.get;rw[h];rfl
theorem xs6{md:Option (Kk×V)}(hz:md=some (kPl,g z))(h:m.at p=none):xY md [(m.ent p z).ob g] (.mp 0) (plV p) false=xY md [m.ob g] (.mp 0) (plV p) false:=by subst hz;rw[yb8 (m:=m.ent p z) rfl,yb8 (m:=m) rfl,Mp.ent_get h,Mp.get_none h];rfl
theorem yI4{p:Pl}{v u:α}:∀{W:List (Pl×α)}{i:Nat},idxW p W=some (i,u)->idxW p (W.set i (p,v))=some (i,v)
 |[],_,h=>by simp[idxW]at h|e::W,i,h=>by
  rw[idxW]at h;by_cases q:e.1=p;.rw[if_pos q]at h;simp only[Option.some.injEq,Prod.mk.injEq]at h;obtain⟨rfl,rfl⟩:=h;rw[Dd,idxW,if_pos rfl]
  .rw[if_neg q,Ba]at h;obtain⟨⟨j,w⟩,h1,h2⟩:=h;simp only[Prod.mk.injEq]at h2;obtain⟨rfl,rfl⟩:=h2;rw[Ca,idxW,if_neg q,yI4 h1];rfl
theorem Mp.put_at(m:Mp α)(p:Pl)(v:α):∃i,idxW p (m.put p v).W=some (i,v):=by unfold Mp.put;cases h:m.at p with |none=>exact⟨_,zy3 h⟩|some q=>exact⟨q.1,yI4 (u:=q.2) h⟩
theorem zc0{W:List (Pl×α)}:zi8 (.st [.i .i64,.s]) (.agg [.int .i64 r,.str k]) (kvE g W) 0=some ((idxW (r,k) W).map λq=>(q.1,g q.2)):=by show zi8 kPl (plV (r,k)) (kvE g W) 0=_;rw[yx8];simp only[Ab]
theorem yG8{id:Nat}(hm:m.ok)(hσ:σ[id]?=some (m.ob g))(h:m.at p=none):wC (some (kPl,g z)) σ (.mp id) (plV p)=.st (.tup [g z,.int .i64 (m.stamp p:Int)]) (σ.set id ((m.ent p z).ob g)):=by have:=xs7 hm (z:=z) hσ p;rw[h]at this;exact this
theorem xs5{id:Nat}(hm:m.ok){v:α}(hσ:σ[id]?=some (m.ob g))(h:m.at p=some (i,v)):wC (some (kPl,g z)) σ (.mp id) (plV p)=.ok (.tup [g v,.int .i64 (m.stamp p:Int)]):=by have:=xs7 hm (z:=z) hσ p;rw[h]at this;exact this
theorem yq0{id:Nat}{m:Mp Int}(hm:m.ok)(h:m.at (r,k)=none)(hσ:σ[id]?=some (m.ob (V.int .i64))):wC (some (.st [.i .i64,.s],.int .i64 0)) σ (.mp id) (.agg [.int .i64 r,.str k])=.st (.tup [.int .i64 0,.int .i64 (m.stamp (r,k):Int)]) (σ.set id ((m.ent (r,k) 0).ob (V.int .i64))):=yG8 (g:=V.int .i64) hm (z:=0) hσ h
theorem yp9{id:Nat}{m:Mp Int}{v:Int}(hm:m.ok)(h:m.at (r,k)=some (i,v))(hσ:σ[id]?=some (m.ob (V.int .i64))):wC (some (.st [.i .i64,.s],.int .i64 0)) σ (.mp id) (.agg [.int .i64 r,.str k])=.ok (.tup [.int .i64 v,.int .i64 (m.stamp (r,k):Int)]):=xs5 (g:=V.int .i64) hm (z:=0) hσ h
theorem zK7{id:Nat}{m:Mp (List UInt8)}(hm:m.ok)(h:m.at (r,k)=none)(hσ:σ[id]?=some (m.ob V.str)):wC (some (.st [.i .i64,.s],.str [])) σ (.mp id) (.agg [.int .i64 r,.str k])=.st (.tup [.str [],.int .i64 (m.stamp (r,k):Int)]) (σ.set id ((m.ent (r,k) []).ob V.str)):=yG8 (g:=V.str) hm (z:=[]) hσ h
theorem zY1{id:Nat}{m:Mp Int}{v:Int}(hm:m.ok)(hσ:σ[id]?=some ((m.ent p 0).ob (V.int .i64))):xO σ (.mp id) (.int .i64 (m.stamp p:Int)) (.int .i64 v)=.st .u (σ.set id ((m.put p v).ob (V.int .i64))):=yq4 (g:=V.int .i64) hm (λ_=>rfl) p hσ v
theorem zx6{id:Nat}{m:Mp (List UInt8)}{v:List UInt8}(hm:m.ok)(hσ:σ[id]?=some ((m.ent p []).ob V.str)):xO σ (.mp id) (.int .i64 (m.stamp p:Int)) (.str v)=.st .u (σ.set id ((m.put p v).ob V.str)):=yq4 (g:=V.str) hm (λ_=>rfl) p hσ v
theorem yw5{id:Nat}{m:Mp Int}{q:Nat×Int}{v:Int}(hm:m.ok)(h:m.at p=some q)(hσ:σ[id]?=some (m.ob (V.int .i64))):xO σ (.mp id) (.int .i64 (m.stamp p:Int)) (.int .i64 v)=.st .u (σ.set id ((m.put p v).ob (V.int .i64))):=zY1 hm (by rw[Mp.ent_some h];exact hσ)
end
end Go.Proofs.YtefbicjgbaaieaaGreat
namespace Go.Proofs.YtefbicjgbaaieaaGreat
open Go Go.Vx R Go.Proofs.Tryz
set_option maxRecDepth 100000
structure Ln where
 r:Int
 k:List UInt8
 v:List GValue
@[go_sem]def Ln.row(x:Ln):List V:=[.int .i64 x.r,.str x.k,.sl .ro (x.v.map GValue.row)]
def Ln.at (x:Ln):Pl:=(x.r,x.k)
def yZ(a b:Pl):Bool:=decide (a.1<b.1)||(decide (a.1=b.1)&&Op.bytesLess a.2 b.2)
theorem zL4(a:Pl):yZ a a=false:=by simp[yZ,zh3]
theorem zI4{a b c:Pl}(h:yZ a b=true)(g:yZ b c=true):yZ a c=true:=by
 simp only[yZ,Bv,A6,decide_eq_true_eq]at h g⊢;rcases h with h|⟨h,h'⟩<;>rcases g with g|⟨g,g'⟩;.exact .inl om
 .exact .inl om
 .exact .inl om
 .exact .inr ⟨om,zv5 _ _ _ h' g'⟩
theorem zB4(a b:Pl):yZ a b=true∨a=b∨yZ b a=true:=by
 simp only[yZ,Bv,A6,decide_eq_true_eq];rcases E3 a.1 b.1with h|h|h;.exact .inl (.inl h)
 .rcases zA5 a.2 b.2with g|g|g;.exact .inl (.inr ⟨h,g⟩)
  .exact .inr (.inl (Prod.ext h g))
  .exact .inr (.inr (.inr ⟨h.symm,g⟩))
 .exact .inr (.inr (.inl h))
theorem yg4{a b:Pl}(h:yZ a b=true):yZ b a=false:=by
 cases q:yZ b a;.rfl
 .have:=zI4 h q;rw[zL4]at this;cases this
def Rise(l:List Pl):Prop:=l.Pairwise λa b=>yZ a b=true
def zT9(l:List Ln)(x:Ln):List Ln:=l.takeWhile (λy=>yZ y.at x.at)++x::l.dropWhile (λy=>yZ y.at x.at)
def atF(l:List Ln)(p:Pl):Bool:=l.any λx=>x.at==p
def zt3(t:Int)(st:GStmt)(x:Ln):Bool:=(zc3 t st).any (λg=>(wP t g).1==x.r)&&(!Op.bytesLess x.k (zq3 tabsS t st).1&&Op.bytesLess x.k (zq3 tabsS t st).2)
def zx3(T:GTable)(st:GStmt):List Ln->List Ln->List Ln×Int|acc,[]=>(acc,0)|acc,x::l=>if(evR T x.v st.where_).2≠0then([],(evR T x.v st.where_).2)else zx3 T st (if zZ8 (evR T x.v st.where_).1=true then acc++[x]else acc) l
def metF(t:Int)(T:GTable)(st:GStmt)(l:List Ln):List Ln×Int:=if st.filtered=true then zx3 T st [] (l.filter (zt3 t st))else(l.filter (zt3 t st),0)
def evsX(T:GTable)(row:List GValue):List GExpr->List GValue->List GValue×Int |[],acc=>(acc,0)|e::l,acc=>if(evR T row e).2≠0then([],(evR T row e).2)else evsX T row l (acc++[(evR T row e).1])
def insF(t:Nat)(T:GTable):List (List GExpr)->List Ln->List Ln×Int |[],l=>(l,0)|r::rs,l=>if(evsX noT [] r []).2≠0then([],(evsX noT [] r []).2)else if(keyS t T (evsX noT [] r []).1).2.2≠0then([],(keyS t T (evsX noT [] r []).1).2.2)else if atF l ((keyS t T (evsX noT [] r []).1).1,(keyS t T (evsX noT [] r []).1).2.1)=true then([],18)else insF t T rs (zT9 l ⟨(keyS t T (evsX noT [] r []).1).1,(keyS t T (evsX noT [] r []).1).2.1,(evsX noT [] r []).1⟩)
def setF(T:GTable)(old:List GValue):List GAssign->List GValue->List GValue×Int |[],row=>(row,0)|x::l,row=>if(evR T old x.e).2≠0then([],(evR T old x.e).2)else setF T old l (row.set (colF T x.name).toNat (evR T old x.e).1)
def putF(l:List Ln)(p:Pl)(row:List GValue):List Ln:=l.map λy=>if y.at=p then⟨y.r,y.k,row⟩else y
def updF(T:GTable)(sets:List GAssign):List Ln->List Ln->List Ln×Int |[],l=>(l,0)|x::m,l=>if(setF T x.v sets x.v).2≠0then([],(setF T x.v sets x.v).2)else if mayT T.cols (setF T x.v sets x.v).1≠0then([],mayT T.cols (setF T x.v sets x.v).1)else updF T sets m (putF l x.at (setF T x.v sets x.v).1)
def delF:List Ln->List Ln->List Ln|[],l=>l|x::m,l=>delF m (l.filter λy=>!decide (y.at=x.at))
def zK0(items:List GItem):Bool:=items.any λx=>x.kind==3||x.kind==4
def sumF(T:GTable)(e:GExpr):List Ln->GValue->GValue×Int |[],acc=>(acc,0)|x::l,acc=>if(evR T x.v e).2≠0then(zeroV,(evR T x.v e).2)else if(evR T x.v e).1.kind=0then sumF T e l acc else if(rngF (acc.n+(evR T x.v e).1.n)).2≠0then(zeroV,(rngF (acc.n+(evR T x.v e).1.n)).2)else sumF T e l ⟨2,(rngF (acc.n+(evR T x.v e).1.n)).1,[]⟩
def zJ3(T:GTable)(l:List Ln):List GItem->List GValue->List GValue×Int |[],acc=>(acc,0)|x::xs,acc=>if x.kind=4then(if(sumF T x.e l zeroV).2≠0then([],(sumF T x.e l zeroV).2)else zJ3 T l xs (acc++[(sumF T x.e l zeroV).1]))else zJ3 T l xs (acc++[⟨2,l.length,[]⟩])
def insB(gt:Ln->Bool)(out:List Ln)(x:Ln):List Ln:=(out.reverse.dropWhile gt).reverse++x::(out.reverse.takeWhile gt).reverse
def cmpC(c:Nat)(down:Bool)(x y:Ln):Int:=if down=true then-(cmpV (x.v.getD c zeroV) (y.v.getD c zeroV))else cmpV (x.v.getD c zeroV) (y.v.getD c zeroV)
def zz3(c:Nat)(down:Bool)(l:List Ln):List Ln:=l.foldl (λout x=>insB (λy=>decide (0<cmpC c down y x)) out x) []
def limF(limit:Int)(l:List Ln):List Ln:=if 0<=limit then l.take limit.toNat else l
def zG2(T:GTable)(items:List GItem):List Ln->List (List GValue)->List (List GValue)×Int |[],acc=>(acc,0)|x::l,acc=>if(items.head?.map (·.kind))=some 1then zG2 T items l (acc++[x.v])else if(evsX T x.v (items.map (·.e)) []).2≠0then([],(evsX T x.v (items.map (·.e)) []).2)else zG2 T items l (acc++[(evsX T x.v (items.map (·.e)) []).1])
structure Ot where
 count:Int
 rows:List (List GValue)
def Ot.row(x:Ot):List V:=[.sl .ro (x.rows.map λr=>[.sl .ro (r.map GValue.row)]),.int .i64 x.count]
def selF(T:GTable)(st:GStmt)(l:List Ln):Ot×Int:=if zK0 st.items=true then(if(zJ3 T l st.items []).2≠0then(⟨0,[]⟩,(zJ3 T l st.items []).2)else(⟨0,[(zJ3 T l st.items []).1]⟩,0))else let m:=limF st.limit (if 0<=colF T st.order then zz3 (colF T st.order).toNat st.down l else l)
  if(zG2 T st.items m []).2≠0then(⟨0,[]⟩,(zG2 T st.items m []).2)else(⟨0,(zG2 T st.items m []).1⟩,0)
def doS(st:GStmt)(l:List Ln):Ot×List Ln×Int:=let t:=(ze0 st.table).toNat
 let T:=tabsS.getD t noT
 if st.kind=2then(if(insF t T st.rows l).2≠0then(⟨0,[]⟩,[],(insF t T st.rows l).2)else(⟨st.rows.length,[]⟩,(insF t T st.rows l).1,0))else if(metF t T st l).2≠0then(⟨0,[]⟩,[],(metF t T st l).2)else if st.kind=1then((selF T st (metF t T st l).1).1,l,(selF T st (metF t T st l).1).2)else if st.kind=3then(if(updF T st.sets (metF t T st l).1 l).2≠0then(⟨0,[]⟩,[],(updF T st.sets (metF t T st l).1 l).2)else(⟨(metF t T st l).1.length,[]⟩,(updF T st.sets (metF t T st l).1 l).1,0))else(⟨(metF t T st l).1.length,[]⟩,delF (metF t T st l).1 l,0)
def doL:List GStmt->Nat->List Ot->List Ln->(Int×Int×List Ot)×List Ln|[],_,acc,l=>((0,0,acc),l)|x::ss,i,acc,l=>if(doS x l).2.2≠0then(((doS x l).2.2,(i:Int),[]),[])else doL ss (i+1) (acc++[(doS x l).1]) (doS x l).2.1
def lotF(lot:GLot)(l:List Ln):(Int×Int×List Ot)×List Ln:=if(zn6 lot).2≠0then(((zn6 lot).2,(zn6 lot).1,[]),l)else if(doL lot.stmts 0 [] l).1.1≠0then((doL lot.stmts 0 [] l).1,l)else doL lot.stmts 0 [] l
structure Wr where
 p:Pl
 drop:Bool
 data:List UInt8
def insW(l:List Wr)(w:Wr):List Wr:=l.takeWhile (λy=>yZ y.p w.p)++w::l.dropWhile (λy=>yZ y.p w.p)
def chgF(was now:List Ln):List Wr:=(now.filter λx=>!(was.any λy=>decide (y.at=x.at)&&decide (yN y.v=yN x.v))).foldl (λl x=>insW l ⟨x.at,false,yN x.v⟩) ((was.filter λx=>!atF now x.at).foldl (λl x=>insW l ⟨x.at,true,[]⟩) [])
end Go.Proofs.YtefbicjgbaaieaaGreat
