/-
  The kinds of expressions: how great one may be, in both texts, over trees (the library Vx); used by the theorem at the end of the claim.
  Conditions: as each theorem states them.
-/
import Derived.Test.YtefbicjgbaaieaaGreatJAI
import Derived.Test.YtefbicjgbaaieaaGreatJAE
set_option maxHeartbeats 8000000
namespace Go.Proofs.YtefbicjgbaaieaaGreat
open Go Go.Vx Go.Proofs.Tryz
set_option maxRecDepth 100000
variable {L:List GToken}
variable {τ:St}{s':RS}{e:Int}
def rowL (L:List GToken):Nat->List GExpr->RS->Bool×List GExpr×RS
 |0,l,s=>(false,l,s)
 |n+1,l,s=>
  if(zc0 L l.length 6 (begF L false s) s).err=0 then
   (if isT L [44] (exF L s).2=true then rowL L n (l++ [(exF L s).1]) (zJ (exF L s).2)else(true,l++ [(exF L s).1],(exF L s).2))
  else(false,l,zc0 L l.length 6 (begF L false s) s)
def zt1 (L:List GToken):Nat->List (List GExpr)->RS->List (List GExpr)×RS
 |0,R,s=>(R,s)
 |n+1,R,s=>
  if(zc0 L R.length 16 (isT L [40] s) s).err=0 then
   (if(rowL L 7 [] (zV L [40] s)).1=true then
    (if isT L [44] (zV L [41] (rowL L 7 [] (zV L [40] s)).2.2)=true then zt1 L n (R++ [(rowL L 7 [] (zV L [40] s)).2.1]) (zJ (zV L [41] (rowL L 7 [] (zV L [40] s)).2.2))
    else(R++ [(rowL L 7 [] (zV L [40] s)).2.1],zV L [41] (rowL L 7 [] (zV L [40] s)).2.2))
   else(R,(rowL L 7 [] (zV L [40] s)).2.2))
  else(R,zc0 L R.length 16 (isT L [40] s) s)
def ya9:List UInt8:= [73,78,84,79]
def zG0:List UInt8:= [86,65,76,85,69,83]
def ze4 (L:List GToken) (s:RS):GStmt×RS:=
 let n:=yO L (zV L ya9 s)
 let r:=zt1 L 17 [] (zV L zG0 n.2)
 (⟨2,n.1,[],r.1,[],false,zeroE,[],false,0⟩,r.2)
theorem yC1 (hL:LIn L): ∀(n:Nat) (l:List GExpr) (s:RS),RIn L s->s.opn=0->UI L s (rowL L n l s).2.2
 |0,_,_,h,_=>UI.refl h
 |n+1,l,s,h,ho=>by
  unfold rowL
  split
  .have h1:=zN0 hL h ho
   split
   .have h2:=h1.trans (yV hL h1.rin ‹_›)
    exact h2.trans (yC1 hL n _ _ h2.rin (h2.opn.trans ho))
   .exact h1
  .exact zn7 h
theorem yN8 (hL:LIn L): ∀(n:Nat) (R:List (List GExpr)) (s:RS),RIn L s->s.opn=0->UI L s (zt1 L n R s).2
 |0,_,_,h,_=>UI.refl h
 |n+1,R,s,h,ho=>by
  unfold zt1
  split
  .have h1:=yD hL [40] h
   have h2:=h1.trans (yC1 hL 7 [] _ h1.rin (h1.opn.trans ho))
   split
   .have h3:=h2.trans (yD hL [41] h2.rin)
    split
    .have h4:=h3.trans (yV hL h3.rin ‹_›)
     exact h4.trans (yN8 hL n _ _ h4.rin (h4.opn.trans ho))
    .exact h3
   .exact h2
  .exact zn7 h
theorem yT6 (hL:LIn L) {s:RS} (h:RIn L s) (ho:s.opn=0):UI L s (ze4 L s).2:=by
 unfold ze4
 have h1:=yD hL ya9 h
 have h2:=h1.trans (zd2 hL h1.rin)
 have h3:=h2.trans (yD hL zG0 h2.rin)
 exact h3.trans (yN8 hL 17 [] _ h3.rin (h3.opn.trans ho))
def inB (nm:List UInt8) (R:List (List GExpr)):Ob:= .box [.int .i64 2,.str nm,.sl .full [],.sl (.app 3) (R.map fun l=> [V.sl .ro (l.map GExpr.row)]),.sl .full [],.bool false,.int .i64 0,.str [],.int .i64 0,.int .i64 0,.str [],.sl .full [],.str [],.bool false,.int .i64 0]
def zSt:Ob:= .box [.int .i64 0,.str [],.sl .full [],.sl .full [],.sl .full [],.bool false,.int .i64 0,.str [],.int .i64 0,.int .i64 0,.str [],.sl .full [],.str [],.bool false,.int .i64 0]
theorem xl3 (L:List GToken) (hL:LIn L) (s0:RS) (au:RIn L s0) (av:s0.opn=0):VCalls prog 136 [.ptr 0 0] [rB L s0] (RT L (ze4 L s0)):=by
 generalize hM:ze4 L s0=M
 unfold ze4 at hM
 have aw:=zd9 L hL s0 au ya9
 have ak:=yD hL ya9 au
 generalize zV L ya9 s0=s1 at aw ak hM
 have hn:=zO9 L hL s1 ak.rin
 have ag:=ak.trans (zd2 hL ak.rin)
 generalize yO L s1=n at hn ag hM
 obtain⟨nm,s2⟩:=n
 simp only at hn ag hM
 have ax:=zd9 L hL s2 ag.rin zG0
 have ay:=ag.trans (yD hL zG0 ag.rin)
 generalize zV L zG0 s2=s3 at ax ay hM
 obtain⟨X,hX⟩:=eX (zt1 L 17 [] s3)
 rw[hX]at hM
 have ret: ∀(R:List (List GExpr)) (s:RS) (τ:St),(R,s)=X->wret (some (.agg [.int .i64 2,.str nm,.sl .full [],.sl (.app 3) (R.map fun l=> [V.sl .ro (l.map GExpr.row)]),.sl .full [],.bool false,.int .i64 0,.str [],.int .i64 0,.int .i64 0,.str [],.sl .full [],.str [],.bool false,.int .i64 0])) 1 (RT L M) (rB L s::τ):=fun R s τ h=>by
  subst h
  exact zh6 (st:=⟨2,nm,[],R,[],false,zeroE,[],false,0⟩) hM
 refine iV 1 func136 ntmps136 results136 fun c hc hb=> ?_
 refine zA ?_
 simp[go_sem]
 refine pR aw ?_
 simp[go_sem]
 refine pR hn ?_
 simp[go_sem]
 refine pR ax ?_
 simp[go_sem]
 refine zJ8 2 3 1 _ dc rfl rfl ?_
 simp only[Bs,Cr]
 refine zH (S:=List (List GExpr)×RS) [0,2,3] (fun u=> [.ptr 0 0,.ptr 1 0,.ptr 2 0]) (fun u=> [rB L u.2,zSt,inB nm u.1,.app u.1.length 1]) (fun u=>17 - u.1.length) (fun u=>u.1.length<=16/\UI L s0 u.2/\zt1 L (17 - u.1.length) u.1 u.2=X) hc hb ([],s3) ⟨A3 _,ay,hX⟩ ?_ ?_
 .exact at_n 4 (by simp[go_sem];exact⟨rfl,rfl⟩) rfl (by simp[rB,zSt,inB,ltOb,ltC,ltK]) dc (zF sg rfl)
 rintro⟨R,s⟩ ⟨hR,hu,hinv⟩
 simp only at hR hu hinv
 have hs:=hu.rin
 have ho:=hu.opn.trans av
 have ah:=is_w L hL s hs [40]
 have ad:=yk2 L hL s hs R.length 16 (isT L [40] s)
 have an:=zg8 (L:=L) (n:=R.length) (most:=16) (b:=isT L [40] s) (s:=s)
 rw[show 17 - R.length=(16 - R.length)+1 by omega,zt1]at hinv
 generalize isT L [40] s=bg at ah ad an hinv
 generalize zc0 L R.length 16 bg s=m at ad an hinv
 by_cases q:m.err=0
 rotate_left
 .have q':(m.err==0)=false:=sU q
  rw[if_neg q]at hinv
  rw[q']at ad
  refine zA ?_
  simp[go_sem]
  refine za9 [(5,3),(6,3)] 1 4 sM kR kR ?_
  simp[go_sem,inB]
  refine zx6 ah cB (wJ ⟨zC rfl,tV⟩) rfl ?_
  simp[go_sem]
  refine zx6 ad cB (wJ ⟨zC rfl,zC rfl,zC rfl,tV⟩) rfl ?_
  simp[go_sem]
  exact ret _ _ _ hinv
 have q':(m.err==0)=true:=sU q
 obtain⟨he,aC,rfl⟩:=an q
 rw[if_pos q]at hinv
 rw[q']at ad
 have az:=zd9 L hL m hs [40]
 have a1:=hu.trans (yD hL [40] hs)
 generalize zV L [40] m=s4 at az a1 hinv
 obtain⟨Y,hY⟩:=eX (rowL L 7 [] s4)
 rw[hY]at hinv
 refine zA ?_
 simp[go_sem]
 refine za9 [(5,3),(6,3)] 1 4 sM kR kR ?_
 simp[go_sem,inB]
 refine zx6 ah cB (wJ ⟨zC rfl,tV⟩) rfl ?_
 simp[go_sem]
 refine zx6 ad cB (wJ ⟨zC rfl,zC rfl,zC rfl,tV⟩) rfl ?_
 simp[go_sem]
 refine pR az ?_
 simp[go_sem]
 refine zo5 4 6 dc sg ?_
 refine zH (S:=List GExpr×RS) [0,2,3,4] (fun u=> [.ptr 0 0,.ptr 1 0,.ptr 2 0,.sl (.app 4) (u.1.map GExpr.row)]) (fun u=> [rB L u.2,zSt,inB nm R,.app R.length 1,.app u.1.length 6]) (fun u=>7 - u.1.length) (fun u=>u.1.length<=6/\UI L s0 u.2/\rowL L (7 - u.1.length) u.1 u.2=Y) hc hb ([],s4) ⟨A3 _,a1,hY⟩ ?_ ?_
 .exact at_n 5 (by simp[go_sem];rfl) rfl (by simp[rB,zSt,inB,ltOb,ltC,ltK]) dc (zF sg rfl)
 rintro⟨l,t⟩ ⟨hl,al,aa⟩
 simp only at hl al aa
 have ht:=al.rin
 have a6:=al.opn.trans av
 have ae:=yF8 L hL t ht false
 have ab:=yk2 L hL t ht l.length 6 (begF L false t)
 have ai:=zg8 (L:=L) (n:=l.length) (most:=6) (b:=begF L false t) (s:=t)
 rw[show 7 - l.length=(6 - l.length)+1 by omega,rowL]at aa
 generalize begF L false t=a8 at ae ab ai aa
 generalize zc0 L l.length 6 a8 t=m2 at ab ai aa
 by_cases q2:m2.err=0
 rotate_left
 .have ao:(m2.err==0)=false:=sU q2
  rw[if_neg q2]at aa
  rw[ao]at ab
  have aq:Y.1=false:=by rw[<-aa]
  have ar:Y.2.2=m2:=by rw[<-aa]
  rw[if_neg (by rw[aq];decide),ar]at hinv
  refine zA ?_
  simp[go_sem]
  refine pR ae ?_
  simp[go_sem]
  refine pR ab ?_
  simp[go_sem,inB]
  exact ret _ _ _ hinv
 have ao:(m2.err==0)=true:=sU q2
 obtain⟨aD,aB,rfl⟩:=ai q2
 rw[if_pos q2]at aa
 rw[ao]at ab
 have hx:=ex_w L hL m2 ht a6
 have af:=al.trans (zN0 hL ht a6)
 generalize exF L m2=x at hx af aa
 by_cases q3:isT L [44] x.2=true
 .rw[if_pos q3]at aa
  refine zA ?_
  simp[go_sem]
  refine pR ae ?_
  simp[go_sem]
  refine pR ab ?_
  simp[go_sem]
  refine za8 hx cB rd_1 ?_
  simp[go_sem,GExpr.row_eq]
  refine zI ⟨om,zX rfl⟩ ?_
  simp[go_sem]
  refine pR (xK L hL x.2 af.rin _ q3) ?_
  simp[go_sem]
  refine zG (l++ [x.1],zJ x.2) ⟨by simp;omega,⟨by simp;omega,af.trans (yV hL af.rin q3),by simp only[Ak,Bf,show 7 - (l.length+1)=6 - l.length by omega];exact aa⟩, ?_⟩
  exact aM 5 (by simp[rB,zSt,inB,ltOb,ltC,ltK]) (zF (by simp[go_sem,GExpr.row_eq]) rfl)
 have q3:isT L [44] x.2=false:=sU q3
 rw[if_neg (by rw[q3];decide)]at aa
 have aq:Y.1=true:=by rw[<-aa]
 have ar:Y.2.2=x.2:=by rw[<-aa]
 have aA:Y.2.1=l++ [x.1]:=by rw[<-aa]
 rw[if_pos aq,ar,aA]at hinv
 have a7:=zd9 L hL x.2 af.rin [41]
 have aj:=af.trans (yD hL [41] af.rin)
 generalize zV L [41] x.2=s5 at a7 aj hinv
 refine zA ?_
 simp[go_sem]
 refine pR ae ?_
 simp[go_sem]
 refine pR ab ?_
 simp[go_sem]
 refine za8 hx cB rd_1 ?_
 simp[go_sem,GExpr.row_eq]
 refine zI ⟨om,zX rfl⟩ ?_
 simp[go_sem]
 refine pR (wQ L hL x.2 af.rin _ q3) ?_
 simp[go_sem]
 refine pR a7 ?_
 simp[go_sem,inB]
 refine zI ⟨om,zX rfl⟩ ?_
 simp[go_sem]
 by_cases q5:isT L [44] s5=true
 .rw[if_pos q5]at hinv
  refine pR (xK L hL s5 aj.rin _ q5) ?_
  simp[go_sem]
  refine zG (R++ [l++ [x.1]],zJ s5) ⟨by simp;omega,⟨by simp;omega,aj.trans (yV hL aj.rin q5),by simp only[Ak,Bf,show 17 - (R.length+1)=16 - R.length by omega];exact hinv⟩, ?_⟩
  exact at_n 4 (by simp[go_sem,GExpr.row_eq]) rfl (by simp[rB,zSt,ltOb,ltC,ltK]) dc (zF sg rfl)
 .have q5:isT L [44] s5=false:=sU q5
  rw[if_neg (by rw[q5];decide)]at hinv
  refine pR (wQ L hL s5 aj.rin _ q5) ?_
  simp[go_sem]
  have hr:=ret (R++ [l++ [x.1]]) s5
  simp[GExpr.row_eq]at hr
  exact hr _ hinv
variable {L:List GToken}
def zE3 (L:List GToken) (s:RS):Bool:=(tokF L s).kind==1&&zi6 (tokF L s).s
def wSET:List UInt8:= [83,69,84]
def zj6 (L:List GToken):Nat->List GAssign->RS->Bool×List GAssign×RS
 |0,l,s=>(false,l,s)
 |n+1,l,s=>
  if(zc0 L l.length 6 (zE3 L s) s).err=0 then
   (if isT L [44] (exF L (zV L [61] (yO L s).2)).2=true then zj6 L n (l++ [⟨(yO L s).1,(exF L (zV L [61] (yO L s).2)).1⟩]) (zJ (exF L (zV L [61] (yO L s).2)).2)
   else(true,l++ [⟨(yO L s).1,(exF L (zV L [61] (yO L s).2)).1⟩],(exF L (zV L [61] (yO L s).2)).2))
  else(false,l,zc0 L l.length 6 (zE3 L s) s)
def zf1 (L:List GToken) (s:RS):GStmt×RS:=
 let n:=yO L s
 let r:=zj6 L 7 [] (zV L wSET n.2)
 if r.1=true then(⟨3,n.1,[],[],r.2.1,(whE L r.2.2).1,(whE L r.2.2).2,[],false,0⟩,whS L r.2.2)
 else(⟨3,n.1,[],[],r.2.1,false,zeroE,[],false,0⟩,r.2.2)
theorem ym3 (hL:LIn L): ∀(n:Nat) (l:List GAssign) (s:RS),RIn L s->s.opn=0->UI L s (zj6 L n l s).2.2
 |0,_,_,h,_=>UI.refl h
 |n+1,l,s,h,ho=>by
  unfold zj6
  split
  .have h1:=zd2 hL h
   have h2:=h1.trans (yD hL [61] h1.rin)
   have h3:=h2.trans (zN0 hL h2.rin (h2.opn.trans ho))
   split
   .have h4:=h3.trans (yV hL h3.rin ‹_›)
    exact h4.trans (ym3 hL n _ _ h4.rin (h4.opn.trans ho))
   .exact h3
  .exact zn7 h
theorem yY8 (hL:LIn L) {s:RS} (h:RIn L s) (ho:s.opn=0):UI L s (zf1 L s).2:=by
 unfold zf1
 have h1:=zd2 hL h
 have h2:=h1.trans (yD hL wSET h1.rin)
 have h3:=h2.trans (ym3 hL 7 [] _ h2.rin (h2.opn.trans ho))
 simp only
 split
 .exact h3.trans (yw9 hL h3.rin (h3.opn.trans ho))
 .exact h3
def upB (nm:List UInt8) (l:List GAssign):Ob:= .box [.int .i64 3,.str nm,.sl .full [],.sl .full [],.sl (.app 3) (l.map GAssign.row),.bool false,.int .i64 0,.str [],.int .i64 0,.int .i64 0,.str [],.sl .full [],.str [],.bool false,.int .i64 0]
theorem xr0 (L:List GToken) (hL:LIn L) (s0:RS) (av:RIn L s0) (al:s0.opn=0):VCalls prog 137 [.ptr 0 0] [rB L s0] (RT L (zf1 L s0)):=by
 generalize hM:zf1 L s0=M
 unfold zf1 at hM
 have hn:=zO9 L hL s0 av
 have ah:=zd2 hL av
 generalize yO L s0=n at hn ah hM
 obtain⟨nm,s2⟩:=n
 simp only at hn ah hM
 have aw:=zd9 L hL s2 ah.rin wSET
 have ax:=ah.trans (yD hL wSET ah.rin)
 generalize zV L wSET s2=s3 at aw ax hM
 obtain⟨X,hX⟩:=eX (zj6 L 7 [] s3)
 rw[hX]at hM
 refine iV 1 func137 ntmps137 results137 fun c hc hb=> ?_
 refine zA ?_
 simp[go_sem]
 refine pR hn ?_
 simp[go_sem]
 refine pR aw ?_
 simp[go_sem]
 refine zJ8 2 4 7 _ dc rfl rfl ?_
 simp only[Bs,Cr]
 refine zH (S:=List GAssign×RS) [0,2,3] (fun u=> [.ptr 0 0,.ptr 1 0,.ptr 2 0]) (fun u=> [rB L u.2,zSt,upB nm u.1,.app u.1.length 7]) (fun u=>7 - u.1.length) (fun u=>u.1.length<=6/\UI L s0 u.2/\zj6 L (7 - u.1.length) u.1 u.2=X) hc hb ([],s3) ⟨A3 _,ax,hX⟩ ?_ ?_
 .exact at_n 4 (by simp[go_sem];exact⟨rfl,rfl⟩) rfl (by simp[rB,zSt,upB,ltOb,ltC,ltK]) dc (zF sg rfl)
 rintro⟨l,s⟩ ⟨hl,hu,hinv⟩
 simp only at hl hu hinv
 have hs:=hu.rin
 have ho:=hu.opn.trans al
 have ad:=zr9 L hL s hs
 have ai:=zX0 (tokF L s).s (hL.txt _ (zC7 hs))
 have aa:=yk2 L hL s hs l.length 6 (zE3 L s)
 have ao:=zg8 (L:=L) (n:=l.length) (most:=6) (b:=zE3 L s) (s:=s)
 rw[show 7 - l.length=(6 - l.length)+1 by omega,zj6]at hinv
 generalize an:zE3 L s=bg at aa ao hinv
 unfold zE3 at an
 have ae:=zO9 L hL s hs
 have aj:=hu.trans (zd2 hL hs)
 generalize tokF L s=tk at ad ai an
 generalize zi6 tk.s=wd at ai an
 generalize zc0 L l.length 6 bg s=m at aa ao hinv
 have key:((tk.kind==1)=true/\wd=bg)∨((tk.kind==1)=false/\false=bg):=by
  revert an
  cases tk.kind==1<;>simp
 by_cases q:m.err=0
 rotate_left
 .have q':(m.err==0)=false:=sU q
  rw[if_neg q]at hinv
  rw[q']at aa
  have aq:X.1=false:=by rw[<-hinv]
  have ar:X.2.1=l:=by rw[<-hinv]
  have au:X.2.2=m:=by rw[<-hinv]
  rw[if_neg (by rw[aq];decide),ar,au]at hM
  refine zA ?_
  simp[go_sem]
  refine pR ad ?_
  simp[go_sem,upB]
  refine za9 [(10,0),(12,3)] 1 5 sM kR kR ?_
  simp[go_sem]
  refine key.elim (fun⟨k1,k2⟩=> ?_) (fun⟨k1,k2⟩=> ?_)
  .simp[go_sem,k1]
   refine pD ai ?_
   simp[go_sem,k2]
   refine zx6 aa cB (wJ ⟨zC rfl,zC rfl,zC rfl,tV⟩) rfl ?_
   simp[go_sem]
   exact zh6 (st:=⟨3,nm,[],[],l,false,zeroE,[],false,0⟩) hM
  .rw[<-k2]at aa
   simp[go_sem,k1]
   refine zx6 aa cB (wJ ⟨zC rfl,zC rfl,zC rfl,tV⟩) rfl ?_
   simp[go_sem]
   exact zh6 (st:=⟨3,nm,[],[],l,false,zeroE,[],false,0⟩) hM
 have q':(m.err==0)=true:=sU q
 obtain⟨he,ay,rfl⟩:=ao q
 rw[if_pos q]at hinv
 rw[q']at aa
 generalize yO L m=n1 at ae aj hinv
 obtain⟨af,t1⟩:=n1
 simp only at ae aj hinv
 have ak:=zd9 L hL t1 aj.rin [61]
 have ag:=aj.trans (yD hL [61] aj.rin)
 generalize zV L [61] t1=t2 at ak ag hinv
 have hx:=ex_w L hL t2 ag.rin (ag.opn.trans al)
 have ab:=ag.trans (zN0 hL ag.rin (ag.opn.trans al))
 generalize exF L t2=x at hx ab hinv
 obtain⟨e,t3⟩:=x
 simp only at ab hinv
 by_cases q3:isT L [44] t3=true
 .rw[if_pos q3]at hinv
  refine zA ?_
  simp[go_sem]
  refine pR ad ?_
  simp[go_sem,upB]
  refine za9 [(10,0),(12,3)] 1 5 sM kR kR ?_
  simp[go_sem]
  refine key.elim (fun⟨k1,k2⟩=> ?_) (fun⟨k1,k2⟩=> ?_)
  .simp[go_sem,k1]
   refine pD ai ?_
   simp[go_sem,k2]
   refine zx6 aa cB (wJ ⟨zC rfl,zC rfl,zC rfl,tV⟩) rfl ?_
   simp[go_sem]
   refine pR ae ?_
   simp[go_sem]
   refine pR ak ?_
   simp[go_sem]
   refine za8 hx cB rd_1 ?_
   simp[go_sem,GExpr.row_eq]
   refine zI ⟨om,zX rfl⟩ ?_
   simp[go_sem]
   refine pR (xK L hL t3 ab.rin _ q3) ?_
   simp[go_sem]
   refine zG (l++ [⟨af,e⟩],zJ t3) ⟨by simp;omega,⟨by simp;omega,ab.trans (yV hL ab.rin q3),by simp only[Ak,Bf,show 7 - (l.length+1)=6 - l.length by omega];exact hinv⟩, ?_⟩
   exact aN 4 (by simp[rB,zSt,ltOb,ltC,ltK])
  .rw[<-k2]at aa
   simp[go_sem,k1]
   refine zx6 aa cB (wJ ⟨zC rfl,zC rfl,zC rfl,tV⟩) rfl ?_
   simp[go_sem]
   refine pR ae ?_
   simp[go_sem]
   refine pR ak ?_
   simp[go_sem]
   refine za8 hx cB rd_1 ?_
   simp[go_sem,GExpr.row_eq]
   refine zI ⟨om,zX rfl⟩ ?_
   simp[go_sem]
   refine pR (xK L hL t3 ab.rin _ q3) ?_
   simp[go_sem]
   refine zG (l++ [⟨af,e⟩],zJ t3) ⟨by simp;omega,⟨by simp;omega,ab.trans (yV hL ab.rin q3),by simp only[Ak,Bf,show 7 - (l.length+1)=6 - l.length by omega];exact hinv⟩, ?_⟩
   exact aN 4 (by simp[rB,zSt,ltOb,ltC,ltK])
 have q3:isT L [44] t3=false:=sU q3
 rw[if_neg (by rw[q3];decide)]at hinv
 have aq:X.1=true:=by rw[<-hinv]
 have ar:X.2.1=l++ [⟨af,e⟩]:=by rw[<-hinv]
 have au:X.2.2=t3:=by rw[<-hinv]
 rw[if_pos aq,ar,au]at hM
 obtain⟨gw,hw⟩:=yo1 L hL t3 ab.rin (ab.opn.trans al) [zSt,.box [.int .i64 3,.str nm,.sl .full [],.sl .full [],.sl (.app 3) (l.map GAssign.row++ [[.str af,.int .i64 e.kind,.str e.s,.int .i64 e.v.kind,.int .i64 e.v.n,.str e.v.s,.sl .ro (e.args.map GExpr.row)]]),.bool false,.int .i64 0,.str [],.int .i64 0,.int .i64 0,.str [],.sl .full [],.str [],.bool false,.int .i64 0],
  .app (l.length+1) 7,.box [.int .i64 tk.kind,.int .i64 tk.place,.str tk.s,.int .i64 tk.n],.box [.str af,.int .i64 e.kind,.str e.s,.int .i64 e.v.kind,.int .i64 e.v.n,.str e.v.s,.sl .ro (e.args.map GExpr.row)]] 1 _ _ _ _ _ _ _ _ rfl
 generalize whS L t3=s9 at hw hM
 generalize whE L t3=w9 at hw hM
 have hr:=fun τ=>zh6 (L:=L) (g1:= .full) (g2:= .full) (g3:= .app 3) (g4:=gw) (τ:=τ) (st:=⟨3,nm,[],[],l++ [⟨af,e⟩],w9.1,w9.2,[],false,0⟩) hM
 simp at hr
 refine zA ?_
 simp[go_sem]
 refine pR ad ?_
 simp[go_sem,upB]
 refine za9 [(10,0),(12,3)] 1 5 sM kR kR ?_
 simp[go_sem]
 refine key.elim (fun⟨k1,k2⟩=> ?_) (fun⟨k1,k2⟩=> ?_)
 .simp[go_sem,k1]
  refine pD ai ?_
  simp[go_sem,k2]
  refine zx6 aa cB (wJ ⟨zC rfl,zC rfl,zC rfl,tV⟩) rfl ?_
  simp[go_sem]
  refine pR ae ?_
  simp[go_sem]
  refine pR ak ?_
  simp[go_sem]
  refine za8 hx cB rd_1 ?_
  simp[go_sem,GExpr.row_eq]
  refine zI ⟨om,zX rfl⟩ ?_
  simp[go_sem]
  refine pR (wQ L hL t3 ab.rin _ q3) ?_
  simp[go_sem]
  refine zD2 hw cB ?_
  rintro r σ ⟨rfl,rfl⟩ _
  simp[go_sem]
  exact hr _
 .rw[<-k2]at aa
  simp[go_sem,k1]
  refine zx6 aa cB (wJ ⟨zC rfl,zC rfl,zC rfl,tV⟩) rfl ?_
  simp[go_sem]
  refine pR ae ?_
  simp[go_sem]
  refine pR ak ?_
  simp[go_sem]
  refine za8 hx cB rd_1 ?_
  simp[go_sem,GExpr.row_eq]
  refine zI ⟨om,zX rfl⟩ ?_
  simp[go_sem]
  refine pR (wQ L hL t3 ab.rin _ q3) ?_
  simp[go_sem]
  refine zD2 hw cB ?_
  rintro r σ ⟨rfl,rfl⟩ _
  simp[go_sem]
  exact hr _
def zA2 (c:UInt8):Bool:=decide (c.toNat=9)||(decide (c.toNat=10)||(decide (c.toNat=13)||decide (c.toNat=32)))
theorem yn2 (c:UInt8) (n:Nat):(((c.toNat:Nat):Int)==(n:Int))=decide (c.toNat=n):=by
 rw[Dl]
 simp only[beq_iff_eq,decide_eq_true_eq]
 omega
theorem yW5 (c:UInt8):Pure prog 133 [.int .u8 c.toNat] (.bool (zA2 c)):=by
 generalize hM:zA2 c=M
 unfold zA2 at hM
 have h9:=yn2 c 9
 have aa:=yn2 c 10
 have ab:=yn2 c 13
 have ad:=yn2 c 32
 simp only[Bu]at h9 aa ab ad
 have ret: ∀(r:Bool) (τ:St),r=M->wret (some (.bool r)) 0 (fun r σ=>r= .bool M/\σ= []) τ:=fun r τ h=>by subst h;exact wR
 refine iW 0 func133 ntmps133 results133 fun c hc hb=>zK ?_
 simp[go_sem]
 repeat' (first
  |(refine xB (fun q=> ?_) (fun q=> ?_)<;>simp[go_sem,q])
  |(refine zR (fun q=> ?_) (fun q=> ?_)<;>simp[go_sem,q]))
 all_goals exact ret _ _ (by rw[<-hM];simp_all)
abbrev TR:=GToken×Nat×Int
def trV (x:TR):V:= .tup [.agg x.1.row,.int .i64 x.2.1,.int .i64 x.2.2]
theorem yD2 (x:TR):noS (trV x)=true:=rfl
theorem zd6 {t:GToken} {n:Nat} {M:TR} (h:(t,n,e)=M):wret (some (.tup [.agg [.int .i64 t.kind,.int .i64 t.place,.str t.s,.int .i64 t.n],.int .i64 n,.int .i64 e])) 0 (fun r σ=>r=trV M/\σ= []) τ:=by
 subst h
 exact wR
def numL (v:Int):List UInt8->Option Int
 | []=>some v
 |c::l=>if xJ c=true then(if(9223372036854775807 - ((c.toNat:Int) - 48))/10<v then none else numL (v*10+((c.toNat:Int) - 48)) l)else some v
def numT (at_:Nat) (l:List UInt8):TR:=
 match numL 0 l with
 |none=>(yY,0,5)
 |some v=>if wG ((l.dropWhile xJ).headD 0)=true then(yY,0,13)else(⟨2,0,[],v⟩,at_+(l.takeWhile xJ).length,0)
theorem xL3 (s:List UInt8) (i:Nat):(s.drop i).headD 0=s.getD i 0:=by
 rw[List.headD_eq_head?_getD,List.head?_drop,A8]
theorem yf1 {c:UInt8} (h:xJ c=true):48<=c.toNat/\c.toNat<=57:=by unfold xJ at h;simpa using h
theorem yN0 (s:List UInt8) (hl:s.length<=maxLen) (a:Nat) (ha:a<=s.length):Pure prog 206 [.str s,.int .i64 a] (trV (numT a (s.drop a))):=by
 generalize hM:numT a (s.drop a)=M
 unfold numT at hM
 unfold maxLen at hl
 have ae:wG 0=false:=dc
 refine iV 0 func206 ntmps206 results206 fun c hc hb=> ?_
 refine zA ?_
 simp[go_sem]
 refine zH (S:=Nat×Int) [0,1,4,7] (fun u=> [.str s,.int .i64 u.1,.ptr 0 0,.int .i64 u.2]) (fun _=> [.box [.int .i64 0,.int .i64 0,.str [],.int .i64 0]]) (fun u=>s.length - u.1)
  (fun u=>u.1<=s.length/\0<=u.2/\u.2<=9223372036854775807/\(match numL u.2 (s.drop u.1)with|none=>(yY,0,5)|some v=>if wG (((s.drop u.1).dropWhile xJ).headD 0)=true then(yY,0,13)else((⟨2,0,[],v⟩,u.1+((s.drop u.1).takeWhile xJ).length,0):TR))=M) hc hb (a,0) ⟨ha,Int.le_refl _,sM,hM⟩ ?_ ?_
 .exact aN 1 (by rfl)
 rintro⟨i,v⟩ ⟨hi,af,ag,hinv⟩
 simp only at hi af ag hinv
 by_cases q:i<s.length
 rotate_left
 .obtain rfl:i=s.length:=om
  rw[Cf]at hinv
  have hinv:(⟨⟨2,0,[],v⟩,s.length,0⟩:TR)=M:=by rw[<-hinv];rfl
  refine zA ?_
  simp[go_sem]
  exact zd6 (t:=⟨2,0,[],v⟩) hinv
 have ei:=zS q om
 obtain⟨x,hx⟩:=eX (s[i])
 rw[A5 q,hx]at hinv
 have aa:=zx0 x
 have ab:=zz3 x
 by_cases qd:xJ x=true
 rotate_left
 .have qd:xJ x=false:=sU qd
  rw[numL,if_neg (by rw[qd];decide),List.dropWhile_cons_of_neg (by rw[qd];decide),List.takeWhile_cons_of_neg (by rw[qd];decide)]at hinv
  simp only[List.headD_cons,Db,D9]at hinv
  rw[qd]at aa
  by_cases ql:wG x=true
  .simp only[ql,if_true]at hinv
   rw[ql]at ab
   refine zA ?_
   simp[go_sem,q,hx]
   refine pC aa ?_
   simp[go_sem,q,hx]
   refine pC ab ?_
   simp[go_sem]
   exact zd6 (t:=yY) hinv
  .have ql:wG x=false:=sU ql
   simp only[ql,Cp,if_false]at hinv
   rw[ql]at ab
   refine zA ?_
   simp[go_sem,q,hx]
   refine pC aa ?_
   simp[go_sem,q,hx]
   refine pC ab ?_
   simp[go_sem]
   exact zd6 (t:=⟨2,0,[],v⟩) hinv
 have hr:=yf1 qd
 rw[numL,if_pos qd,List.dropWhile_cons_of_pos qd,D3 qd]at hinv
 rw[qd]at aa
 have e1:IntKind.u8.wrap ((x.toNat:Int) - 48)=(x.toNat:Int) - 48:=yD5 om om
 have e2:IntKind.i64.wrap ((x.toNat:Int) - 48)=(x.toNat:Int) - 48:=i64_id om om
 have e3:IntKind.i64.wrap (9223372036854775807 - ((x.toNat:Int) - 48))=9223372036854775807 - ((x.toNat:Int) - 48):=i64_id om om
 obtain⟨d,hd⟩: ∃d:Int,(x.toNat:Int) - 48=d:=⟨_,rfl⟩
 rw[hd]at hinv e1 e2 e3
 have ah:0<=d/\d<=9:=om
 have e4:IntKind.i64.wrap ((9223372036854775807 - d).tdiv 10)=(9223372036854775807 - d)/10:=by
  rw[Int.tdiv_eq_ediv_of_nonneg om,i64_id om om]
 refine zA ?_
 simp[go_sem,q,hx]
 refine pC aa ?_
 simp[go_sem,q,hx,e1,e2,e3,e4,hd]
 by_cases qg:(9223372036854775807 - d)/10<v
 .have ad:decide ((9223372036854775807 - d)/10<v)=true:=decide_eq_true qg
  simp only[qg,if_true]at hinv
  simp[go_sem,ad]
  exact zd6 (t:=yY) hinv
 .have ad:decide ((9223372036854775807 - d)/10<v)=false:=decide_eq_false qg
  simp only[qg,if_false]at hinv
  have e5:IntKind.i64.wrap (v*10)=v*10:=i64_id om om
  have e6:IntKind.i64.wrap (v*10+d)=v*10+d:=i64_id om om
  simp[go_sem,ad,e5,e6,ei]
  refine zG (i+1,v*10+d) ⟨by simp only;omega,⟨by simp only;omega,by simp only;omega,by simp only;omega, ?_⟩, ?_⟩
  .simp only[Aa]at hinv
   rw[<-hinv]
   simp only[Do,Dt 1]
  .exact aN 1 (by rfl)
def ya6 (i:Nat) (w:List UInt8):TR:=if 64<w.length then(yY,0,3)else(⟨3,0,w,0⟩,i+1,0)
def xH:Nat->List UInt8->List UInt8->TR
 |_,_,[]=>(yY,0,13)
 |i,w,[c]=>if c.toNat=39 then ya6 i w else(yY,0,13)
 |i,w,c::c2::l=>if c.toNat=39 then(if c2.toNat=39 then xH (i+2) (w++ [c2]) l else ya6 i w)else xH (i+1) (w++ [c]) (c2::l)
theorem yY3 (i:Nat) (w:List UInt8) (c:UInt8) (l:List UInt8) (h: ¬c.toNat=39):xH i w (c::l)=xH (i+1) (w++ [c]) l:=by
 cases l with
 |nil=>rw[xH,xH,if_neg h]
 |cons c2 l=>rw[xH,if_neg h]
theorem xm5 (s:List UInt8) (hl:s.length<=maxLen) (a:Nat) (ha:a<s.length):Pure prog 207 [.str s,.int .i64 a] (trV (xH (a+1) [] (s.drop (a+1)))):=by
 generalize hM:xH (a+1) [] (s.drop (a+1))=M
 unfold maxLen at hl
 have ea:IntKind.i64.wrap ((a:Int)+1)=((a+1:Nat):Int):=zS ha om
 refine iV 0 func207 ntmps207 results207 fun c hc hb=> ?_
 refine zA ?_
 simp[go_sem,ea]
 refine zH (S:=Nat×List UInt8) [0,4,7,8] (fun u=> [.str s,.ptr 0 0,.str u.2,.int .i64 u.1]) (fun _=> [.box [.int .i64 0,.int .i64 0,.str [],.int .i64 0]]) (fun u=>s.length - u.1)
  (fun u=>u.1<=s.length/\u.2.length<=u.1/\xH u.1 u.2 (s.drop u.1)=M) hc hb (a+1,[]) ⟨ha,A3 _,hM⟩ ?_ ?_
 .exact aN 1 (by rfl)
 rintro⟨i,w⟩ ⟨hi,hw,hinv⟩
 simp only at hi hw hinv
 by_cases q:i<s.length
 rotate_left
 .obtain rfl:i=s.length:=om
  rw[Cf]at hinv
  refine zA ?_
  simp[go_sem]
  exact zd6 (t:=yY) hinv
 have ei:=zS q om
 obtain⟨x,hx⟩:=eX (s[i])
 have aa:=yn2 x 39
 simp only[Bu]at aa
 rw[A5 q,hx]at hinv
 by_cases ae:x.toNat=39
 rotate_left
 .rw[decide_eq_false ae]at aa
  rw[yY3 _ _ _ _ ae]at hinv
  have ah:(s.take (i+1)).drop i= [x]:=by
   rw[Cx,A0 q,hx,E5,A9 (by simp;omega),D4,Dm om]
   simp
  refine zA ?_
  simp[go_sem,q,hx,aa,ei]
  refine zI om ?_
  simp[go_sem,ah]
  refine zI om ?_
  simp[go_sem,ei]
  refine zG (i+1,w++ [x]) ⟨by simp only;omega,⟨by simp only;omega,by simp;omega,hinv⟩, ?_⟩
  exact aN 1 (by rfl)
 rw[decide_eq_true ae]at aa
 by_cases q2:i+1<s.length
 rotate_left
 .have ak:s.drop (i+1)= []:=A9 om
  rw[ak,xH,if_pos ae]at hinv
  unfold ya6 at hinv
  have e1:((i:Int)+1==(s.length:Int))=true:=by simp;omega
  refine zA ?_
  simp[go_sem,q,hx,aa,ei,e1]
  by_cases af:64<w.length
  .have ab:decide ((64:Int)<w.length)=true:=decide_eq_true om
   rw[if_pos af]at hinv
   simp[go_sem,ab]
   exact zd6 (t:=yY) hinv
  .have ab:decide ((64:Int)<w.length)=false:=decide_eq_false om
   rw[if_neg af]at hinv
   simp[go_sem,ab,ei]
   exact zd6 (t:=⟨3,0,w,0⟩) hinv
 have e1:((i:Int)+1==(s.length:Int))=false:=by simp;omega
 have al:=zS q2 om
 obtain⟨y,hy⟩:=eX (s[i+1])
 have ag:=yn2 y 39
 simp only[Bu]at ag
 have aj:s[i+1]?.getD 0=y:=by rw[A0 q2,hy];rfl
 have ai:IntKind.i64.wrap ((i:Int)+1+1)=(i:Int)+2:=by rw[i64_id om om];omega
 rw[A5 q2,hy,xH,if_pos ae]at hinv
 by_cases qy:y.toNat=39
 rotate_left
 .rw[if_neg qy]at hinv
  unfold ya6 at hinv
  rw[decide_eq_false qy]at ag
  have ad:((y.toNat:Int) !=39)=true:=by simp;omega
  refine zA ?_
  simp[go_sem,q,hx,aa,ei,e1]
  refine zI om ?_
  simp[go_sem,aj,ad]
  by_cases af:64<w.length
  .have ab:decide ((64:Int)<w.length)=true:=decide_eq_true om
   rw[if_pos af]at hinv
   simp[go_sem,ab]
   exact zd6 (t:=yY) hinv
  .have ab:decide ((64:Int)<w.length)=false:=decide_eq_false om
   rw[if_neg af]at hinv
   simp[go_sem,ab,ei]
   exact zd6 (t:=⟨3,0,w,0⟩) hinv
 rw[if_pos qy]at hinv
 rw[decide_eq_true qy]at ag
 have ad:((y.toNat:Int) !=39)=false:=by simp;omega
 have ah:(s.take (i+2)).drop (i+1)= [y]:=by
  rw[Cx,A0 q2,hy,E5,A9 (by simp;omega),D4,Dm om]
  simp
 refine zA ?_
 simp[go_sem,q,hx,aa,ei,e1]
 have et:((i:Int)+2).toNat=i+2:=om
 have an:IntKind.i64.wrap ((i:Int)+1+1)=((i+2:Nat):Int):=by rw[ai];omega
 refine zI om ?_
 simp[go_sem,aj,ad,ei,ai,et]
 refine zI om ?_
 simp[go_sem,ah]
 refine zI om ?_
 simp[go_sem,ai]
 refine zG (i+2,w++ [y]) ⟨by simp only;omega,⟨by simp only;omega,by simp;omega,hinv⟩, ?_⟩
 exact aN 1 (by rfl)
def wrdF (c:UInt8):Bool:=wG c||xJ c
def signsL:List UInt8:= [40,41,44,59,42,61,60,62,43,45,47,37]
def oneF (s:List UInt8) (a:Nat):TR:=
 if wG (s.getD a 0)=true then(⟨1,0,((s.drop a).takeWhile wrdF).map yF,0⟩,a+((s.drop a).takeWhile wrdF).length,0)
 else if xJ (s.getD a 0)=true then numT a (s.drop a)
 else if(s.getD a 0).toNat=39 then xH (a+1) [] (s.drop (a+1))
 else if a+1<s.length/\((s.drop a).take 2= [60,61]∨(s.drop a).take 2= [62,61]∨(s.drop a).take 2= [60,62])then(⟨4,0,(s.drop a).take 2,0⟩,a+2,0)
 else if signsL.contains (s.getD a 0)=true then(⟨4,0,[s.getD a 0],0⟩,a+1,0)
 else(yY,0,13)
theorem xD8 (s:List UInt8) (hl:s.length<=maxLen) (a:Nat) (ha:a<s.length):Pure prog 134 [.str s,.int .i64 a] (trV (oneF s a)):=by
 generalize hM:oneF s a=M
 have ah:=yN0 s hl a om
 have ai:=xm5 s hl a ha
 unfold oneF at hM
 unfold maxLen at hl
 have ay:s.getD a 0=s[a]:=by rw[A8,A0 ha];rfl
 rw[ay]at hM
 obtain⟨x,hx⟩:=eX (s[a])
 rw[hx]at hM
 have ae:=zz3 x
 have af:=zx0 x
 generalize numT a (s.drop a)=n at ah hM
 generalize xH (a+1) [] (s.drop (a+1))=t at ai hM
 have ret: ∀(y:TR) (τ:St),y=M->wret (some (.tup [.agg [.int .i64 y.1.kind,.int .i64 y.1.place,.str y.1.s,.int .i64 y.1.n],.int .i64 y.2.1,.int .i64 y.2.2])) 0 (fun r σ=>r=trV M/\σ= []) τ:=fun y τ h=>zd6 (t:=y.1) h
 refine iV 0 func134 ntmps134 results134 fun c hc hb=> ?_
 refine zA ?_
 simp[go_sem,ha,hx]
 by_cases q1:wG x=true
 .rw[if_pos q1]at hM
  rw[q1]at ae
  refine pC ae ?_
  simp[go_sem]
  refine zH (S:=Nat×List UInt8) [0,1,4,7] (fun u=> [.str s,.int .i64 u.1,.ptr 0 0,.str u.2]) (fun _=> [.box [.int .i64 0,.int .i64 0,.str [],.int .i64 0]]) (fun u=>s.length - u.1)
   (fun u=>u.1<=s.length/\u.2.length<=u.1/\((⟨1,0,u.2++((s.drop u.1).takeWhile wrdF).map yF,0⟩,u.1+((s.drop u.1).takeWhile wrdF).length,0):TR)=M) hc hb (a,[]) ⟨by simp only;omega,A3 _,hM⟩ ?_ ?_
  .exact aN 1 (by rfl)
  rintro⟨i,w⟩ ⟨hi,hw,hinv⟩
  simp only at hi hw hinv
  by_cases q:i<s.length
  rotate_left
  .obtain rfl:i=s.length:=om
   rw[Cf]at hinv
   simp only[List.takeWhile_nil,Bm,B9,Db,D9]at hinv
   refine zA ?_
   simp[go_sem]
   exact zd6 (t:=⟨1,0,w,0⟩) hinv
  have ei:=zS q om
  obtain⟨y,hy⟩:=eX (s[i])
  rw[A5 q,hy]at hinv
  have az:=zz3 y
  have ag:=zx0 y
  have ar:=yz3 y
  have yes:wrdF y=true->((⟨1,0,(w++ [yF y])++((s.drop (i+1)).takeWhile wrdF).map yF,0⟩,i+1+((s.drop (i+1)).takeWhile wrdF).length,0):TR)=M:=fun h=>by
   rw[D3 h]at hinv
   rw[<-hinv,Ai,Cw,Aa,Do i 1,Dt 1]
   rfl
  have no:wrdF y=false->((⟨1,0,w,0⟩,i,0):TR)=M:=fun h=>by
   rw[List.takeWhile_cons_of_neg (by rw[h];decide)]at hinv
   rw[<-hinv]
   simp
  have au:zR6 [[V.int .u8 ((yF y).toNat:Int)]]:=wY [yF y]
  have av:zq3 [V.int .u8 ((yF y).toNat:Int)]=yF y:=(List.cons.inj (zk1 [yF y])).1
  refine zA ?_
  simp[go_sem,q,hy]
  refine pC az ?_
  refine(A7 (wG y)).elim (fun p1=> ?_) (fun p1=> ?_)
  .have ab:=yes (by unfold wrdF;rw[p1];rfl)
   simp[go_sem,p1,q,hy]
   refine pC ar ?_
   simp[go_sem]
   refine zI au ?_
   simp[go_sem,av]
   refine zI om ?_
   simp[go_sem,ei]
   refine zG (i+1,w++ [yF y]) ⟨by simp only;omega,⟨by simp only;omega,by simp;omega,ab⟩, ?_⟩
   exact aN 1 (by rfl)
  refine(A7 (xJ y)).elim (fun p2=> ?_) (fun p2=> ?_)
  .have ab:=yes (by unfold wrdF;rw[p1,p2];rfl)
   simp[go_sem,p1,q,hy]
   refine pC ag ?_
   simp[go_sem,p2,q,hy]
   refine pC ar ?_
   simp[go_sem]
   refine zI au ?_
   simp[go_sem,av]
   refine zI om ?_
   simp[go_sem,ei]
   refine zG (i+1,w++ [yF y]) ⟨by simp only;omega,⟨by simp only;omega,by simp;omega,ab⟩, ?_⟩
   exact aN 1 (by rfl)
  .have a1:=no (by unfold wrdF;rw[p1,p2];rfl)
   simp[go_sem,p1,q,hy]
   refine pC ag ?_
   simp[go_sem,p2]
   exact zd6 (t:=⟨1,0,w,0⟩) a1
 have q1:wG x=false:=sU q1
 rw[if_neg (by rw[q1];decide)]at hM
 rw[q1]at ae
 refine pC ae ?_
 simp[go_sem,ha,hx]
 by_cases q2:xJ x=true
 .rw[if_pos q2]at hM
  rw[q2]at af
  refine pC af ?_
  simp[go_sem]
  refine zM ah cB (zY rfl) (yD2 _) ?_
  simp[go_sem,trV]
  exact ret _ _ hM
 have q2:xJ x=false:=sU q2
 rw[if_neg (by rw[q2];decide)]at hM
 rw[q2]at af
 refine pC af ?_
 simp[go_sem,ha,hx]
 have aa:=yn2 x 39
 simp only[Bu]at aa
 by_cases q3:x.toNat=39
 .rw[if_pos q3]at hM
  rw[decide_eq_true q3]at aa
  simp[go_sem,aa]
  refine zM ai cB (zY rfl) (yD2 _) ?_
  simp[go_sem,trV]
  exact ret _ _ hM
 rw[if_neg q3]at hM
 rw[decide_eq_false q3]at aa
 simp[go_sem,aa]
 have aw: ∀(y:UInt8),((y.toNat:Int)==(x.toNat:Int))=(y==x):=fun y=>by
  rw[Dl]
  simp only[beq_iff_eq]
  exact⟨fun h=>UInt8.toNat_inj.1 om,fun h=>by rw[h]⟩
 have ea:IntKind.i64.wrap ((a:Int)+1)=((a+1:Nat):Int):=zS ha om
 have aj:(s.take (a+1)).drop a= [x]:=by
  rw[Cx,A0 ha,hx,E5,A9 (by simp;omega),D4,Dm om]
  simp
 by_cases qa:a+1<s.length
 rotate_left
 .have ak:decide ((a:Int)+1<s.length)=false:=decide_eq_false om
  rw[if_neg (fun h=>qa h.1)]at hM
  simp[go_sem,ea,ak]
  refine zH (S:=Nat) [0,1,4,9] (fun k=> [.str s,.int .i64 a,.ptr 0 0,.int .i64 (k:Int)]) (fun _=> [.box [.int .i64 0,.int .i64 0,.str [],.int .i64 0]]) (fun k=>12 - k)
   (fun k=>k<=12/\(if(signsL.drop k).contains x=true then(⟨4,0,[x],0⟩,a+1,0)else(yY,0,13):TR)=M) hc hb 0 ⟨A3 _,hM⟩ ?_ ?_
  .exact aN 1 (by rfl)
  rintro k ⟨hk,hinv⟩
  by_cases qk:k<12
  rotate_left
  .obtain rfl:k=12:=om
   refine zA ?_
   simp[go_sem]
   exact zd6 (t:=yY) hinv
  have ad:k<signsL.length:=qk
  have ek:=zS qk dc
  have al:decide ((k:Int)<12)=true:=decide_eq_true om
  obtain⟨y,hy⟩:=eX (signsL[k])
  rw[A5 ad,hy]at hinv
  have an: [40,41,44,59,42,61,60,62,43,45,47,37][k]?.getD (0:UInt8)=y:=by
   have:signsL[k]?.getD 0=y:=by rw[A0 ad,hy];rfl
   exact this
  refine zA ?_
  simp[go_sem,al]
  refine xA [] 1 sM kR kR ?_
  simp[go_sem]
  refine zI om ?_
  simp[go_sem,ha,hx,an,aw]
  by_cases qe:(y==x)=true
  .have ao:y=x:=sU qe
   rw[if_pos (by simp[ao])]at hinv
   simp[go_sem,qe,ea]
   refine zI om ?_
   simp[go_sem,aj,ea]
   exact zd6 (t:=⟨4,0,[x],0⟩) hinv
  .have qe:(y==x)=false:=sU qe
   have aq:(y::signsL.drop (k+1)).contains x=(signsL.drop (k+1)).contains x:=by
    rw[Dk,show(x==y)=false by rw[<-qe];exact Dl.2 ⟨fun h=>by simp_all,fun h=>by simp_all⟩]
    rfl
   rw[aq]at hinv
   simp[go_sem,qe,ek]
   exact zG (k+1) ⟨om,⟨om,hinv⟩,aN 1 (by rfl)⟩
 have ak:decide ((a:Int)+1<s.length)=true:=decide_eq_true om
 have ax:IntKind.i64.wrap ((a:Int)+2)=(a:Int)+2:=by rw[i64_id om om]
 have et:((a:Int)+2).toNat=a+2:=om
 have ag:(s.drop a).take 2=(s.take (a+2)).drop a:=by rw[List.drop_take];congr 1;omega
 rw[ag]at hM
 simp[go_sem,ea,ax,et,ak]
 refine zI om ?_
 simp[go_sem]
 generalize (s.take (a+2)).drop a=two at hM
 have yes:(two= [60,61]∨two= [62,61]∨two= [60,62])->((⟨4,0,two,0⟩,a+2,0):TR)=M:=fun h=>by rw[if_pos ⟨qa,h⟩]at hM;exact hM
 have no: ¬(two= [60,61]∨two= [62,61]∨two= [60,62])->(if signsL.contains x=true then(⟨4,0,[x],0⟩,a+1,0)else(yY,0,13):TR)=M:=fun h=>by rw[if_neg (fun hh=>h hh.2)]at hM;exact hM
 clear hM
 by_cases qt:two= [60,61]∨two= [62,61]∨two= [60,62]
 .have hM:=yes qt
  rcases qt with rfl|rfl|rfl
  all_goals simp[go_sem,ax]
  all_goals exact zd6 (t:=⟨4,0,_,0⟩) hM
 .have hM:=no qt
  have p1:(two== [60,61])=false:=by simpa using fun h=>qt (.inl h)
  have p2:(two== [62,61])=false:=by simpa using fun h=>qt (.inr (.inl h))
  have p3:(two== [60,62])=false:=by simpa using fun h=>qt (.inr (.inr h))
  clear yes no qt
  simp[go_sem,p1,p2,p3]
  refine zH (S:=Nat) [0,1,4,9] (fun k=> [.str s,.int .i64 a,.ptr 0 0,.int .i64 (k:Int)]) (fun _=> [.box [.int .i64 0,.int .i64 0,.str [],.int .i64 0]]) (fun k=>12 - k)
   (fun k=>k<=12/\(if(signsL.drop k).contains x=true then(⟨4,0,[x],0⟩,a+1,0)else(yY,0,13):TR)=M) hc hb 0 ⟨A3 _,hM⟩ ?_ ?_
  .exact aN 1 (by rfl)
  rintro k ⟨hk,hinv⟩
  by_cases qk:k<12
  rotate_left
  .obtain rfl:k=12:=om
   refine zA ?_
   simp[go_sem]
   exact zd6 (t:=yY) hinv
  have ad:k<signsL.length:=qk
  have ek:=zS qk dc
  have al:decide ((k:Int)<12)=true:=decide_eq_true om
  obtain⟨y,hy⟩:=eX (signsL[k])
  rw[A5 ad,hy]at hinv
  have an: [40,41,44,59,42,61,60,62,43,45,47,37][k]?.getD (0:UInt8)=y:=by
   have:signsL[k]?.getD 0=y:=by rw[A0 ad,hy];rfl
   exact this
  refine zA ?_
  simp[go_sem,al]
  refine xA [] 1 sM kR kR ?_
  simp[go_sem]
  refine zI om ?_
  simp[go_sem,ha,hx,an,aw]
  by_cases qe:(y==x)=true
  .have ao:y=x:=sU qe
   rw[if_pos (by simp[ao])]at hinv
   simp[go_sem,qe,ea]
   refine zI om ?_
   simp[go_sem,aj,ea]
   exact zd6 (t:=⟨4,0,[x],0⟩) hinv
  .have qe:(y==x)=false:=sU qe
   have aq:(y::signsL.drop (k+1)).contains x=(signsL.drop (k+1)).contains x:=by
    rw[Dk,show(x==y)=false by rw[<-qe];exact Dl.2 ⟨fun h=>by simp_all,fun h=>by simp_all⟩]
    rfl
   rw[aq]at hinv
   simp[go_sem,qe,ek]
   exact zG (k+1) ⟨om,⟨om,hinv⟩,aN 1 (by rfl)⟩
def lexL (s:List UInt8):Nat->Nat->List GToken->List GToken×Int
 |0,_,_=>([],0)
 |n+1,a,l=>
  if a<s.length then
   (if zA2 (s.getD a 0)=true then lexL s n (a+1) l
   else if(oneF s a).2.2=0 then lexL s n (oneF s a).2.1 (l++ [{(oneF s a).1 with place:=a}])else([],(oneF s a).2.2))
  else(l++ [⟨0,s.length,[],0⟩],0)
def lexF (s:List UInt8):List GToken×Int:=if 2000<s.length then([],3)else lexL s (s.length+1) 0 []
theorem yL9: ∀(l:List UInt8) (v r:Int),0<=v->v<=9223372036854775807->numL v l=some r->0<=r/\r<=9223372036854775807
 | [],v,r,h0,h1,h=>by rw[numL]at h;cases h;exact⟨h0,h1⟩
 |c::l,v,r,h0,h1,h=>by
  rw[numL]at h
  split at h
  .rename_i hd
   have hr:=yf1 hd
   split at h
   .cases h
   .exact yL9 l _ r om om h
  .cases h;exact⟨h0,h1⟩
theorem yn0: ∀(k:Nat) (l:List UInt8),l.length<=k-> ∀(i:Nat) (w:List UInt8),(xH i w l).2.2=0->i<(xH i w l).2.1/\(xH i w l).2.1<=i+l.length/\(xH i w l).1.s.length<=64/\(xH i w l).1.n=0
 |0,l,hk,i,w,h=>by
  have:l= []:=B4 om
  subst this
  simp[xH]at h
 |k+1,l,hk,i,w,h=>by
  match l,hk with
  | [],_=>simp[xH]at h
  | [c],_=>
   rw[xH]at h⊢
   split at h
   .rename_i hc
    rw[if_pos hc]
    unfold ya6 at h⊢
    split at h
    .simp at h
    .rename_i aa
     rw[if_neg aa]
     exact⟨sM,sM,by simp only;omega,rfl⟩
   .simp at h
  |c::c2::l,hk=>
   rw[xH]at h⊢
   split at h
   .rename_i hc
    rw[if_pos hc]
    split at h
    .rename_i ab
     rw[if_pos ab]
     have:=yn0 k l (by simp at hk;omega) _ _ h
     simp only[Aa]
     omega
    .rename_i ab
     rw[if_neg ab]
     unfold ya6 at h⊢
     split at h
     .simp at h
     .rename_i aa
      rw[if_neg aa]
      exact⟨sM,sM,by simp only;omega,rfl⟩
   .rename_i hc
    rw[if_neg hc]
    have:=yn0 k (c2::l) (by simp at hk⊢;omega) _ _ h
    simp only[Aa]at this⊢
    omega
theorem yY6 {p:UInt8->Bool}: ∀l:List UInt8,(l.takeWhile p).length<=l.length
 | []=>A4 _
 |c::l=>by
  rw[List.takeWhile_cons]
  have:=yY6 (p:=p) l
  split<;>simp only[Aa,Db]<;>omega
theorem yd1 {s:List UInt8} {a:Nat} (ha:a<s.length) (h:(oneF s a).2.2=0):a<(oneF s a).2.1/\(oneF s a).2.1<=s.length/\(oneF s a).1.s.length<=s.length+64/\0<=(oneF s a).1.n/\(oneF s a).1.n<=9223372036854775807:=by
 have aa:s.getD a 0=s[a]:=by rw[A8,A0 ha];rfl
 have ab:=A5 ha
 unfold oneF at h⊢
 rw[aa,ab]at h⊢
 obtain⟨x,hx⟩:=eX (s[a])
 rw[hx]at h⊢
 have hl:(s.drop (a+1)).length=s.length - (a+1):=Cq
 generalize s.drop (a+1)=l at h hl⊢
 split at h
 .rename_i q1
  rw[if_pos q1]
  have hw:wrdF x=true:=by unfold wrdF;rw[q1];rfl
  have:=yY6 (p:=wrdF) l
  rw[D3 hw]
  simp only[Aa,An]
  omega
 rename_i q1
 rw[if_neg q1]
 split at h
 .rename_i q2
  rw[if_pos q2]
  unfold numT at h⊢
  split at h
  .simp at h
  rename_i r hr
  have ad:=yL9 _ 0 r (Int.le_refl _) dc hr
  split at h
  .simp at h
  rename_i hle
  rw[if_neg hle,D3 q2]
  have:=yY6 (p:=xJ) l
  simp only[Aa,Db]
  omega
 rename_i q2
 rw[if_neg q2]
 split at h
 .rename_i q3
  rw[if_pos q3]
  have:=yn0 l.length l (A4 _) _ _ h
  omega
 rename_i q3
 rw[if_neg q3]
 split at h
 .rename_i q4
  rw[if_pos q4]
  simp only[D4]
  omega
 rename_i q4
 rw[if_neg q4]
 split at h
 .rename_i q5
  rw[if_pos q5]
  simp only[Bf]
  omega
 .simp at h
def yZ7 (t:GToken):Prop:=t.s.length<=3000/\0<=t.n/\t.n<=9223372036854775807
theorem yA0 {s:List UInt8} (hs:s.length<=2000): ∀(n a:Nat) (l:List GToken),s.length<n+a->a<=s.length->l.length<=a->(∀t∈l,yZ7 t)->(lexL s n a l).2=0->
  ∃l',(lexL s n a l).1=l'++ [⟨0,s.length,[],0⟩]/\l'.length<=s.length/\ ∀t∈l',yZ7 t
 |0,a,l,hf,ha,_,_,_=>by omega
 |n+1,a,l,hf,ha,hl,ht,h=>by
  unfold lexL at h⊢
  by_cases q:a<s.length
  rotate_left
  .rw[if_neg q]
   exact⟨l,rfl,om,ht⟩
  rw[if_pos q]at h⊢
  by_cases q2:zA2 (s.getD a 0)=true
  .rw[if_pos q2]at h⊢
   exact yA0 hs n (a+1) l om om om ht h
  rw[if_neg q2]at h⊢
  by_cases q3:(oneF s a).2.2=0
  .rw[if_pos q3]at h⊢
   have ho:=yd1 q q3
   refine yA0 hs n _ _ om om (by simp;omega) (fun t aa=> ?_) h
   rw[B5]at aa
   rcases aa with aa|aa
   .exact ht t aa
   .simp only[Af,Ay,or_false]at aa
    subst aa
    unfold yZ7
    simp only
    omega
  .rw[if_neg q3]at h
   exact absurd h q3
theorem xd4 {s:List UInt8} (h:(lexF s).2=0):s.length<=2000/\LIn (lexF s).1/\LGood (lexF s).1/\1<=(lexF s).1.length/\(lexF s).1.length<=2001:=by
 unfold lexF at h⊢
 split at h
 .simp at h
 rename_i hl
 rw[if_neg hl]
 obtain⟨l',h1,h2,h3⟩:=yA0 om _ _ _ om (A3 _) (A4 _) (fun t ht=>by cases ht) h
 have h4: ∀t∈l'++ [⟨0,s.length,[],0⟩],yZ7 t:=fun t ht=>by
  rw[B5]at ht
  rcases ht with ht|ht
  .exact h3 t ht
  .simp only[Af,Ay,or_false]at ht
   subst ht
   exact⟨A3 _,Int.le_refl _,sM⟩
 rw[h1]
 refine⟨om,⟨by simp;omega,fun i hi=> ?_,fun t ht=> ?_⟩,⟨fun t ht=> ?_,fun t ht=>(h4 t ht).2⟩,sM,by simp;omega⟩
 .have:i=l'.length:=by simp at hi;omega
  subst this
  rw[A8,B8 (A4 _),Nat.sub_self]
  rfl
 .have:=(h4 t ht).1;unfold maxLen;omega
 .have:=(h4 t ht).1;omega
def lexV (x:List GToken×Int):V:= .tup [.sl .ro (x.1.map GToken.row),.int .i64 x.2]
theorem yE4 {g:Tag} {l:List GToken} {M:List GToken×Int} (h:(l,e)=M):wret (some (.tup [.sl g (l.map GToken.row),.int .i64 e])) 0 (fun r σ=>r=lexV M/\σ= []) τ:=by
 subst h
 exact xP (r:= .tup [.sl .ro (l.map GToken.row),.int .i64 e]) (xU ⟨zt5,za1 rfl,tV⟩) ⟨rfl,rfl⟩
theorem wd3 (s:List UInt8) (hl:s.length<=maxLen):Pure prog 70 [.str s] (lexV (lexF s)):=by
 generalize hM:lexF s=M
 unfold lexF at hM
 unfold maxLen at hl
 refine iV 0 func70 ntmps70 results70 fun c hc hb=> ?_
 refine zA ?_
 simp[go_sem]
 by_cases q0:2000<s.length
 .rw[if_pos q0]at hM
  have ad:decide ((2000:Int)<s.length)=true:=decide_eq_true om
  simp[go_sem,ad]
  exact yE4 (l:= []) hM
 rw[if_neg q0]at hM
 have ad:decide ((2000:Int)<s.length)=false:=decide_eq_false om
 simp[go_sem,ad]
 refine zo5 4 4 dc sg ?_
 refine zH (S:=Nat×List GToken) [0,4,5] (fun u=> [.str s,.sl (.app 0) (u.2.map GToken.row),.int .i64 u.1]) (fun u=> [.app u.2.length 4]) (fun u=>s.length - u.1)
  (fun u=>u.1<=s.length/\u.2.length<=u.1/\ ∃n,s.length<n+u.1/\lexL s n u.1 u.2=M) hc hb (0,[]) ⟨A3 _,A4 _,s.length+1,by simp only;omega,hM⟩ ?_ ?_
 .exact aN 1 (by rfl)
 rintro⟨a,l⟩ ⟨ha,af,n,hn,hinv⟩
 simp only at ha af hn hinv
 obtain⟨n,rfl⟩: ∃m,n=m+1:=⟨n - 1,om⟩
 rw[lexL]at hinv
 by_cases q:a<s.length
 rotate_left
 .rw[if_neg q]at hinv
  refine zA ?_
  simp[go_sem,q]
  refine zI ⟨om,zX rfl⟩ ?_
  simp[go_sem]
  have hr:=fun g τ=>yE4 (g:=g) (τ:=τ) hinv
  simp at hr
  exact hr _ _
 rw[if_pos q]at hinv
 have ea:=zS q om
 obtain⟨x,hx⟩:=eX (s[a])
 have ag:s.getD a 0=x:=by rw[A8,A0 q,hx];rfl
 rw[ag]at hinv
 have aa:=yW5 x
 by_cases q2:zA2 x=true
 .rw[if_pos q2]at hinv
  rw[q2]at aa
  refine zA ?_
  simp[go_sem,q,hx]
  refine pC aa ?_
  simp[go_sem,ea]
  exact zG (a+1,l) ⟨by simp only;omega,⟨by simp only;omega,by simp only;omega,n,by simp only;omega,hinv⟩,aN 1 (by rfl)⟩
 have q2:zA2 x=false:=sU q2
 rw[if_neg (by rw[q2];decide)]at hinv
 rw[q2]at aa
 have ab:=xD8 s (by unfold maxLen;omega) a q
 have hok:=yd1 q
 generalize oneF s a=o at ab hok hinv
 by_cases q3:o.2.2=0
 .rw[if_pos q3]at hinv
  have hok:=hok q3
  have ae:(o.2.2 !=0)=false:=sU q3
  refine zA ?_
  simp[go_sem,q,hx]
  refine pC aa ?_
  simp[go_sem]
  refine zM ab cB (zY rfl) (yD2 _) ?_
  simp[go_sem,trV,ae]
  refine zI ⟨om,zX rfl⟩ ?_
  simp[go_sem]
  refine zG (o.2.1,l++ [{o.1 with place:=a}]) ⟨by simp only;omega,⟨by simp only;omega,by simp;omega,n,by simp only;omega,hinv⟩, ?_⟩
  exact aN 1 (by rfl)
 .rw[if_neg q3]at hinv
  have ae:(o.2.2 !=0)=true:=sU q3
  refine zA ?_
  simp[go_sem,q,hx]
  refine pC aa ?_
  simp[go_sem]
  refine zM ab cB (zY rfl) (yD2 _) ?_
  simp[go_sem,trV,ae]
  exact yE4 (l:= []) hinv
variable {L:List GToken}
def zM4:List UInt8:= [83,69,76,69,67,84]
def zM3:List UInt8:= [73,78,83,69,82,84]
def zM5:List UInt8:= [85,80,68,65,84,69]
def zz7:List UInt8:= [68,69,76,69,84,69]
def zd5 (L:List GToken) (s:RS):GStmt×RS:=
 if isT L zM4 s=true then zf0 L (zJ s)
 else if isT L zM3 s=true then ze4 L (zJ s)
 else if isT L zM5 s=true then zf1 L (zJ s)
 else
  let n:=yO L (zV L zx5 (zV L zz7 s))
  (⟨4,n.1,[],[],[],(whE L n.2).1,(whE L n.2).2,[],false,0⟩,whS L n.2)
theorem yX4 (hL:LIn L) {s:RS} (h:RIn L s) (ho:s.opn=0):UI L s (zf0 L s).2:=by
 unfold zf0
 have h1:=yj2 hL h ho
 have h2:=h1.trans (yD hL zx5 h1.rin)
 have h3:=h2.trans (zd2 hL h2.rin)
 have h4:=h3.trans (yw9 hL h3.rin (h3.opn.trans ho))
 have h5:=h4.trans (yl1 hL h4.rin)
 exact h5.trans (yK0 hL h5.rin)
theorem yC7 (hL:LIn L) {s:RS} (h:RIn L s) (ho:s.opn=0):UI L s (zd5 L s).2:=by
 unfold zd5
 split
 .have h1:=yV hL h ‹_›
  exact h1.trans (yX4 hL h1.rin (h1.opn.trans ho))
 split
 .have h1:=yV hL h ‹_›
  exact h1.trans (yT6 hL h1.rin (h1.opn.trans ho))
 split
 .have h1:=yV hL h ‹_›
  exact h1.trans (yY8 hL h1.rin (h1.opn.trans ho))
 .have h1:=yD hL zz7 h
  have h2:=h1.trans (yD hL zx5 h1.rin)
  have h3:=h2.trans (zd2 hL h2.rin)
  exact h3.trans (yw9 hL h3.rin (h3.opn.trans ho))
theorem wb4 (L:List GToken) (hL:LIn L) (s:RS) (hs:RIn L s) (ho:s.opn=0):VCalls prog 73 [.ptr 0 0] [rB L s] (RT L (zd5 L s)):=by
 generalize hM:zd5 L s=M
 unfold zd5 at hM
 have ret: ∀(x:GStmt×RS) (τ:St),x=M->wret (some (.agg x.1.row)) 1 (RT L M) (rB L x.2::τ):=fun x τ h=>zh6 (g1:= .ro) (g2:= .ro) (g3:= .ro) (g4:= .ro) (st:=x.1) h
 refine iW 1 func73 ntmps73 results73 fun c hc hb=>zK ?_
 simp[go_sem]
 by_cases q1:isT L zM4 s=true
 .rw[if_pos q1]at hM
  have aa:=xp9 L hL (zJ s) (hs.next hL q1) ho
  generalize zf0 L (zJ s)=x at aa hM
  refine pR (xK L hL s hs _ q1) ?_
  simp[go_sem]
  refine yn7 aa cB rd_1 (yk5 _) ?_
  simp[go_sem]
  exact ret x _ hM
 have q1:isT L zM4 s=false:=sU q1
 rw[if_neg (by rw[q1];decide)]at hM
 refine pR (wQ L hL s hs _ q1) ?_
 simp[go_sem]
 by_cases q2:isT L zM3 s=true
 .rw[if_pos q2]at hM
  have aa:=xl3 L hL (zJ s) (hs.next hL q2) ho
  generalize ze4 L (zJ s)=x at aa hM
  refine pR (xK L hL s hs _ q2) ?_
  simp[go_sem]
  refine yn7 aa cB rd_1 (yk5 _) ?_
  simp[go_sem]
  exact ret x _ hM
 have q2:isT L zM3 s=false:=sU q2
 rw[if_neg (by rw[q2];decide)]at hM
 refine pR (wQ L hL s hs _ q2) ?_
 simp[go_sem]
 by_cases q3:isT L zM5 s=true
 .rw[if_pos q3]at hM
  have aa:=xr0 L hL (zJ s) (hs.next hL q3) ho
  generalize zf1 L (zJ s)=x at aa hM
  refine pR (xK L hL s hs _ q3) ?_
  simp[go_sem]
  refine yn7 aa cB rd_1 (yk5 _) ?_
  simp[go_sem]
  exact ret x _ hM
 have q3:isT L zM5 s=false:=sU q3
 rw[if_neg (by rw[q3];decide)]at hM
 refine pR (wQ L hL s hs _ q3) ?_
 simp[go_sem]
 have af:=zd9 L hL s hs zz7
 have ab:=yD hL zz7 hs
 generalize zV L zz7 s=s1 at af ab hM
 have ag:=zd9 L hL s1 ab.rin zx5
 have ad:=ab.trans (yD hL zx5 ab.rin)
 generalize zV L zx5 s1=s2 at ag ad hM
 have hn:=zO9 L hL s2 ad.rin
 have ae:=ad.trans (zd2 hL ad.rin)
 generalize yO L s2=n at hn ae hM
 obtain⟨nm,s3⟩:=n
 simp only at hn ae hM
 obtain⟨gw,hw⟩:=yo1 L hL s3 ae.rin (ae.opn.trans ho) [zSt,.box [.int .i64 4,.str nm,.sl .full [],.sl .full [],.sl .full [],.bool false,.int .i64 0,.str [],.int .i64 0,.int .i64 0,.str [],.sl .full [],.str [],.bool false,.int .i64 0]] 1 _ _ _ _ _ _ _ _ rfl
 generalize whS L s3=s4 at hw hM
 generalize whE L s3=w at hw hM
 refine pR af ?_
 simp[go_sem]
 refine pR ag ?_
 simp[go_sem]
 refine pR hn ?_
 simp[go_sem]
 refine zD2 hw cB ?_
 rintro r σ ⟨rfl,rfl⟩ _
 simp[go_sem]
 exact zh6 (st:=⟨4,nm,[],[],[],w.1,w.2,[],false,0⟩) hM
theorem wU {P:Program} {c:Ctx} {f:FuncId} {caps args args':List V} {o:Ob} {L:List GToken} {s:RS} {v:V} {KV:V->St->Prop} (hc:VCalls P f args' [rB L s] (fun r σ=>r=v/\σ= [rB L s'])) (hb:wL P f=true)
  (aa:All2 (argS (ren [1] (τ.length+2))) args' (args++caps)) (hn:noS v=true) (hk:KV v (o::rB L s'::τ)):wVC P c (.fn f caps) args (o::rB L s::τ) KV fx:=by
 refine zm2 1 hc hb rfl (xg2 _ _ _) aa (fun r σ h=>⟨_,h.2,xg2 _ _ _⟩) ?_
 rintro r o2 ⟨rfl,h2⟩
 obtain rfl:o2=rB L s':=sU h2
 rw[zF4 hn]
 exact hk
theorem xi9 {P:Program} {c:Ctx} {n:Nat} {f:FuncId} {caps args args':List V} {o:Ob} {L:List GToken} {s:RS} {v:V} {KV:V->St->Prop} (hc:VCalls P f args' [rB L s] (fun r σ=>r=v/\σ= [rB L s'])) (hb:wL P f=true)
  (aa:All2 (argS (ren [1] (τ.length+2))) args' (args++caps)) (hn:noS v=true) (hk:KV v (o::rB L s'::τ)):wVD P c ⟨2,n,[],none⟩ 3 (.fn f caps) args (o::rB L s::τ) KV fx:=by
 have ab: ∀(N:Nat) (s:RS),yS (ren [1] N) (rB L s)=rB L s:=fun N s=>wO (n:=0) (fun _ h=>absurd h (Dn _)) (xg2 _ _ _)
 have e:xX [1] (o::rB L s::τ) [rB L s']=o::rB L s'::τ:=by
  simp only[xX,Bf,Cm,List.take_zero,D0,B1,Ai,Bm,mset,B9,ab]
  rfl
 refine yQ7 hc hb [1] sM rfl (fun i j q h1 h2=> ?_) aa (.inr ?_) ?_
 .match i with
  |0=>simp at h1 h2;subst h1;subst h2;rw[ab];rfl
  |i+1=>simp at h1
 .rw[e];exact Kp.of_set (σ:=o::rB L s::τ) (id:=1) (o:=rB L s') (.inl sM)
 .rw[e,zF4 hn];exact hk
theorem zc3 {N:Nat} {l l':List V} (h:All2 (argS (ren [1] N)) l l'):All2 (argS (ren [1] N)) (.ptr 0 0::l) (.ptr 1 0::l'):=⟨.inl rfl,h⟩
theorem yl4 {N:Nat}:All2 (argS (ren [1] N)) [.ptr 0 0] [.ptr 1 0]:=zc3 trivial
variable {L:List GToken}
def wAS:List UInt8:= [65,83]
def wOF:List UInt8:= [79,70]
def zU0:List UInt8:= [83,89,83,84,69,77]
def yQ3:List UInt8:= [84,73,77,69]
def yY9:List UInt8:= [66,79,85,78,68]
def yX6:List (List UInt8):= [zM4,zM3,zM5,zz7]
def beg4 (L:List GToken) (s:RS):Bool:= !(anyF L s yX6).isEmpty
def zh4 (L:List GToken):Nat->List GStmt->RS->List GStmt×RS
 |0,l,s=>(l,s)
 |n+1,l,s=>
  if s.err=0 then
   if(zc0 L l.length 8 (beg4 L s) s).err=0 then
    if isT L [59] (zd5 L s).2=true then
     if isT L wAS (zJ (zd5 L s).2)=true∨(tokF L (zJ (zd5 L s).2)).kind=0 then(l++ [(zd5 L s).1],zJ (zd5 L s).2)
     else zh4 L n (l++ [(zd5 L s).1]) (zJ (zd5 L s).2)
    else(l++ [(zd5 L s).1],(zd5 L s).2)
   else(l,zc0 L l.length 8 (beg4 L s) s)
  else(l,s)
def asS (L:List GToken) (s:RS):RS:=zV L yQ3 (zV L zU0 (zV L wOF (zJ s)))
def asF (L:List GToken) (s:RS):(Int×Int)×RS:=
 if isT L wAS s=true then
  if isT L yY9 (asS L s)=true then((2,(numF L (zJ (asS L s))).1),(numF L (zJ (asS L s))).2)
  else((1,(numF L (asS L s)).1),(numF L (asS L s)).2)
 else((0,0),s)
def endF (L:List GToken) (s:RS):RS:=if s.err=0/\(tokF L s).kind≠0 then wM 13 (tokF L s).place s else s
def rs0:RS:=⟨0,0,0,0⟩
def lot0:GLot:=⟨0,0,[]⟩
def yM9 (L:List GToken):GLot×Int×Int:=
 let x:=zh4 L 9 [] rs0
 let a:=asF L x.2
 let e:=endF L a.2
 if e.err=0 then(⟨a.1.1,a.1.2,x.1⟩,0,0)else(lot0,e.place,e.err)
def yC (s:List UInt8):GLot×Int×Int:=if(lexF s).2=0 then yM9 (lexF s).1 else(lot0,0,(lexF s).2)
theorem yv8 (hL:LIn L): ∀(n:Nat) (l:List GStmt) (s:RS),RIn L s->s.opn=0->UI L s (zh4 L n l s).2
 |0,_,_,h,_=>UI.refl h
 |n+1,l,s,h,ho=>by
  unfold zh4
  split
  .split
   .have h1:=yC7 hL h ho
    split
    .have h2:=h1.trans (yV hL h1.rin ‹_›)
     split
     .exact h2
     .exact h2.trans (yv8 hL n _ _ h2.rin (h2.opn.trans ho))
    .exact h1
   .exact zn7 h
  .exact UI.refl h
theorem xs8 (hL:LIn L) {s:RS} (h:RIn L s) (hi:isT L wAS s=true):UI L s (asS L s):=by
 unfold asS
 have h1:=yV hL h hi
 have h2:=h1.trans (yD hL wOF h1.rin)
 have h3:=h2.trans (yD hL zU0 h2.rin)
 exact h3.trans (yD hL yQ3 h3.rin)
theorem xT2 (hL:LIn L) {s:RS} (h:RIn L s):UI L s (asF L s).2:=by
 unfold asF
 split
 .rename_i hi
  have h1:=xs8 hL h hi
  split
  .have h2:=h1.trans (yV hL h1.rin ‹_›)
   exact h2.trans (yV4 hL h2.rin)
  .exact h1.trans (yV4 hL h1.rin)
 .exact UI.refl h
def parV (x:GLot×Int×Int):V:= .tup [.agg x.1.row,.int .i64 x.2.1,.int .i64 x.2.2]
theorem yo3 {g:Tag} {l:GLot} {p:Int} {M:GLot×Int×Int} (h:(l,p,e)=M):wret (some (.tup [.agg [.int .i64 l.mode,.int .i64 l.n,.sl g (l.stmts.map GStmt.row)],.int .i64 p,.int .i64 e])) 0 (fun r σ=>r=parV M/\σ= []) τ:=by
 subst h
 exact xP (r:= .tup [.agg [.int .i64 l.mode,.int .i64 l.n,.sl .ro (l.stmts.map GStmt.row)],.int .i64 p,.int .i64 e]) (xU ⟨zd0 ⟨zU rfl,zU rfl,yX,tV⟩,za1 rfl,za1 rfl,tV⟩) ⟨rfl,rfl⟩
def lotB (m n:Int) (l:List GStmt):Ob:= .box [.int .i64 m,.int .i64 n,.sl (.app 3) (l.map GStmt.row)]
def lotZ:Ob:= .box [.int .i64 0,.int .i64 0,.sl .full []]
theorem xJ4 (s:List UInt8) (hl:s.length<=maxLen):Pure prog 36 [.str s] (parV (yC s)):=by
 generalize hM:yC s=M
 unfold yC at hM
 have ah:=wd3 s hl
 have hok:=xd4 (s:=s)
 generalize lexF s=x at ah hok hM
 obtain⟨L,e⟩:=x
 simp only at hok hM
 refine iV 0 func36 ntmps36 results36 fun c hc hb=> ?_
 by_cases qe:e=0
 rotate_left
 .rw[if_neg qe]at hM
  have au:(e !=0)=true:=sU qe
  refine zA ?_
  simp[go_sem]
  refine pC ah ?_
  simp[go_sem,lexV,au]
  exact yo3 (l:=lot0) hM
 obtain⟨_,hL,hG,aD,aE⟩:=hok qe
 rw[if_pos qe]at hM
 have au:(e !=0)=false:=sU qe
 have h0:RIn L rs0:=⟨by show 0<_;omega,by show(0:Int)<=0/\(0:Int)<=100000;omega⟩
 unfold yM9 at hM
 obtain⟨X,hX⟩:=eX (zh4 L 9 [] rs0)
 rw[hX]at hM
 refine zP (zA ?_)
 simp[go_sem]
 refine zP (zA ?_)
 simp[go_sem]
 refine pC ah ?_
 simp[go_sem,lexV]
 refine zP (zA ?_)
 simp[go_sem,au]
 refine zP (zA ?_)
 simp[go_sem]
 refine zP (zA ?_)
 simp[go_sem]
 refine zJ8 2 2 15 _ dc rfl rfl ?_
 simp only[Bs,Cr]
 refine zg2 (S:=List GStmt×RS) [2,7,8] (fun _=> [.ptr 0 0,.ptr 1 0,.ptr 2 0]) (fun u=> [lotZ,rB L u.2,lotB 0 0 u.1,.app u.1.length 15]) (fun u=>RIn L u.2/\u.2.opn=0/\u=X) hc hb ?_ ?_
 .refine zh3 ?_
  refine zH (S:=List GStmt×RS) [2,7,8] (fun _=> [.ptr 0 0,.ptr 1 0,.ptr 2 0]) (fun u=> [lotZ,rB L u.2,lotB 0 0 u.1,.app u.1.length 15]) (fun u=>9 - u.1.length) (fun u=>u.1.length<=8/\RIn L u.2/\u.2.opn=0/\zh4 L (9 - u.1.length) u.1 u.2=X) hc hb ([],rs0) ⟨A3 _,h0,rfl,hX⟩ ?_ ?_
  .exact at_n 4 (by simp[go_sem];exact⟨rfl,rfl,rfl⟩) rfl (by simp[rB,lotZ,lotB,ltOb,ltC,ltK]) dc (zF sg rfl)
  rintro⟨l,s1⟩ ⟨aB,hs,ho,hinv⟩
  simp only at aB hs ho hinv
  rw[show 9 - l.length=(8 - l.length)+1 by omega,zh4]at hinv
  by_cases q1:s1.err=0
  rotate_left
  .rw[if_neg q1]at hinv
   have ab:(s1.err==0)=false:=sU q1
   refine zA ?_
   simp[go_sem,rB,ab]
   exact zG (l,s1) ⟨⟨hs,ho,hinv⟩,aN 4 (by simp[lotZ,lotB,ltOb,ltC,ltK])⟩
  have ab:(s1.err==0)=true:=sU q1
  rw[if_pos q1]at hinv
  have ae:=zY3 L hL s1 hs yX6 dc
  have aa:=yk2 L hL s1 hs l.length 8 (beg4 L s1)
  have ao:=zg8 (L:=L) (n:=l.length) (most:=8) (b:=beg4 L s1) (s:=s1)
  have ai:=zn7 (L:=L) (n:=l.length) (most:=8) (b:=beg4 L s1) hs
  unfold beg4 at aa ao ai hinv
  generalize anyF L s1 yX6=an at ae aa ao ai hinv
  generalize zc0 L l.length 8 (!an.isEmpty) s1=m at aa ao ai hinv
  by_cases q2:m.err=0
  rotate_left
  .rw[if_neg q2]at hinv
   have ad:(m.err==0)=false:=sU q2
   rw[ad]at aa
   refine zA ?_
   simp[go_sem,rB,ab]
   refine wU ae cB (zc3 ⟨zL,tV⟩) rfl ?_
   simp[go_sem,lotB]
   refine wU aa cB (zc3 ⟨zC rfl,zC rfl,zC rfl,tV⟩) rfl ?_
   simp[go_sem,rB]
   exact zG (l,m) ⟨⟨ai.rin,ai.opn.trans ho,hinv⟩,aN 4 (by simp[lotZ,ltOb,ltC,ltK])⟩
  have ad:(m.err==0)=true:=sU q2
  rw[ad]at aa
  obtain⟨_,aF,rfl⟩:=ao q2
  rw[if_pos q2]at hinv
  have av:=wb4 L hL m hs ho
  have aq:=yC7 hL hs ho
  generalize zd5 L m=x at av aq hinv
  obtain⟨st,s2⟩:=x
  simp only at aq hinv
  have af:=aq.rin
  have ar:=aq.opn.trans ho
  by_cases q3:isT L [59] s2=true
  rotate_left
  .have q3:isT L [59] s2=false:=sU q3
   rw[if_neg (by rw[q3];decide)]at hinv
   refine zA ?_
   simp[go_sem,rB,ab]
   refine wU ae cB (zc3 ⟨zL,tV⟩) rfl ?_
   simp[go_sem,lotB]
   refine wU aa cB (zc3 ⟨zC rfl,zC rfl,zC rfl,tV⟩) rfl ?_
   simp[go_sem]
   refine za9 [(3,3)] 2 4 sM kR kR ?_
   simp[go_sem]
   refine xi9 av cB yl4 (yk5 _) ?_
   simp[go_sem]
   refine zI ⟨om,zX rfl⟩ ?_
   simp[go_sem]
   refine wU (wQ L hL s2 af _ q3) cB (zc3 ⟨zC rfl,tV⟩) rfl ?_
   simp[go_sem,rB]
   exact zG (l++ [st],s2) ⟨⟨af,ar,hinv⟩,aN 4 (by simp[lotZ,ltOb,ltC,ltK])⟩
  rw[if_pos q3]at hinv
  have aj:=af.next hL q3
  have a1:=is_w L hL (zJ s2) aj wAS
  have ag:=zr9 L hL (zJ s2) aj
  generalize isT L wAS (zJ s2)=ba at a1 hinv
  generalize tokF L (zJ s2)=tk at ag hinv
  refine zA ?_
  simp[go_sem,rB,ab]
  refine wU ae cB (zc3 ⟨zL,tV⟩) rfl ?_
  simp[go_sem,lotB]
  refine wU aa cB (zc3 ⟨zC rfl,zC rfl,zC rfl,tV⟩) rfl ?_
  simp[go_sem]
  refine za9 [(3,3)] 2 4 sM kR kR ?_
  simp[go_sem]
  refine xi9 av cB yl4 (yk5 _) ?_
  simp[go_sem]
  refine zI ⟨om,zX rfl⟩ ?_
  simp[go_sem]
  refine wU (xK L hL s2 af _ q3) cB (zc3 ⟨zC rfl,tV⟩) rfl ?_
  simp[go_sem]
  refine wU a1 cB (zc3 ⟨zC rfl,tV⟩) rfl ?_
  refine(A7 ba).elim (fun q4=> ?_) (fun q4=> ?_)
  .rw[if_pos (.inl q4)]at hinv
   simp[go_sem,q4,rB]
   exact zG (l++ [st],zJ s2) ⟨⟨aj,ar,hinv⟩,aN 4 (by simp[lotZ,ltOb,ltC,ltK])⟩
  simp[go_sem,q4]
  refine wU ag cB yl4 rfl ?_
  by_cases q5:tk.kind=0
  .have aw:(tk.kind==0)=true:=sU q5
   rw[if_pos (.inr q5)]at hinv
   simp[go_sem,aw,rB]
   exact zG (l++ [st],zJ s2) ⟨⟨aj,ar,hinv⟩,aN 4 (by simp[lotZ,ltOb,ltC,ltK])⟩
  .have aw:(tk.kind==0)=false:=sU q5
   rw[if_neg (by rw[q4];simp[q5])]at hinv
   simp[go_sem,aw,rB]
   refine zG (l++ [st],zJ s2) ⟨by simp;omega,⟨by simp;omega,aj,ar,by simp only[Ak,Bf,show 9 - (l.length+1)=8 - l.length by omega];exact hinv⟩,aN 4 (by simp[lotZ,ltOb,ltC,ltK])⟩
 .rintro⟨l,s1⟩ ⟨hs,ho,aC⟩
  simp only at hs ho
  rw[<-aC]at hM
  simp only at hM
  have ax:=xT2 hL hs
  refine zg2 (S:=(Int×Int)×RS) [2,7,8] (fun _=> [.ptr 0 0,.ptr 1 0,.ptr 2 0]) (fun u=> [lotZ,rB L u.2,lotB u.1.1 u.1.2 l,.app l.length 15]) (fun u=>u=asF L s1) hc hb ?_ ?_
  .obtain⟨A,hA⟩:=eX (asF L s1)
   rw[hA]
   unfold asF asS at hA
   by_cases q1:isT L wAS s1=true
   rotate_left
   .have q1:isT L wAS s1=false:=sU q1
    rw[if_neg (by rw[q1];decide)]at hA
    refine zA ?_
    simp[go_sem]
    refine wU (wQ L hL s1 hs _ q1) cB (zc3 ⟨zC rfl,tV⟩) rfl ?_
    simp[go_sem]
    exact zG ((0,0),s1) ⟨hA,aN 4 (by simp[rB,lotZ,lotB,ltOb,ltC,ltK])⟩
   rw[if_pos q1]at hA
   have a6:=hs.next hL q1
   have a7:=zd9 L hL _ a6 wOF
   have ay:=zk8 hL (w:=wOF) a6
   generalize zV L wOF (zJ s1)=u1 at a7 ay hA
   have a8:=zd9 L hL _ ay zU0
   have az:=zk8 hL (w:=zU0) ay
   generalize zV L zU0 u1=u2 at a8 az hA
   have aA:=zd9 L hL _ az yQ3
   have ak:=zk8 hL (w:=yQ3) az
   generalize zV L yQ3 u2=u3 at aA ak hA
   refine zA ?_
   simp[go_sem]
   refine wU (xK L hL s1 hs _ q1) cB (zc3 ⟨zC rfl,tV⟩) rfl ?_
   simp[go_sem]
   refine wU a7 cB (zc3 ⟨zC rfl,tV⟩) rfl ?_
   simp[go_sem]
   refine wU a8 cB (zc3 ⟨zC rfl,tV⟩) rfl ?_
   simp[go_sem]
   refine wU aA cB (zc3 ⟨zC rfl,tV⟩) rfl ?_
   simp[go_sem,lotB]
   by_cases q2:isT L yY9 u3=true
   .rw[if_pos q2]at hA
    have al:=yu2 L hL _ (ak.next hL q2)
    generalize numF L (zJ u3)=nn at al hA
    refine wU (xK L hL u3 ak _ q2) cB (zc3 ⟨zC rfl,tV⟩) rfl ?_
    simp[go_sem]
    refine wU al cB yl4 rfl ?_
    simp[go_sem]
    exact zG ((2,nn.1),nn.2) ⟨hA,aN 4 (by simp[rB,lotZ,ltOb,ltC,ltK])⟩
   .have q2:isT L yY9 u3=false:=sU q2
    rw[if_neg (by rw[q2];decide)]at hA
    have al:=yu2 L hL _ ak
    generalize numF L u3=nn at al hA
    refine wU (wQ L hL u3 ak _ q2) cB (zc3 ⟨zC rfl,tV⟩) rfl ?_
    simp[go_sem]
    refine wU al cB yl4 rfl ?_
    simp[go_sem]
    exact zG ((1,nn.1),nn.2) ⟨hA,aN 4 (by simp[rB,lotZ,ltOb,ltC,ltK])⟩
  .rintro _ rfl
   generalize asF L s1=A at ax hM
   obtain⟨⟨m,n⟩,s2⟩:=A
   simp only at ax hM
   have af:=ax.rin
   refine zg2 (S:=RS) [2,7,8] (fun _=> [.ptr 0 0,.ptr 1 0,.ptr 2 0]) (fun u=> [lotZ,rB L u,lotB m n l,.app l.length 15]) (fun u=>u=endF L s2) hc hb ?_ ?_
   .have ag:=zr9 L hL s2 af
    have hf:=zI0 L s2 13 (tokF L s2).place
    obtain⟨E,hE⟩:=eX (endF L s2)
    rw[hE]
    unfold endF at hE
    generalize tokF L s2=tk at ag hf hE
    generalize wM 13 tk.place s2=f at hf hE
    refine zA ?_
    simp[go_sem,rB]
    by_cases q1:s2.err=0
    rotate_left
    .have ab:(s2.err==0)=false:=sU q1
     rw[if_neg (fun h=>q1 h.1)]at hE
     simp[go_sem,ab]
     exact zG s2 ⟨hE,aN 4 (by simp[lotZ,lotB,ltOb,ltC,ltK])⟩
    have ab:(s2.err==0)=true:=sU q1
    simp[go_sem,ab]
    refine wU ag cB yl4 rfl ?_
    by_cases q2:tk.kind=0
    .have ad:(tk.kind !=0)=false:=sU q2
     rw[if_neg (fun h=>h.2 q2)]at hE
     simp[go_sem,ad,rB]
     exact zG s2 ⟨hE,aN 4 (by simp[lotZ,lotB,ltOb,ltC,ltK])⟩
    .have ad:(tk.kind !=0)=true:=sU q2
     rw[if_pos ⟨q1,q2⟩]at hE
     simp[go_sem,ad]
     refine wU ag cB yl4 rfl ?_
     simp[go_sem]
     refine wU hf cB (zc3 ⟨zC rfl,zC rfl,tV⟩) rfl ?_
     simp[go_sem,rB]
     exact zG f ⟨hE,aN 4 (by simp[lotZ,lotB,ltOb,ltC,ltK])⟩
   .rintro _ rfl
    generalize endF L s2=E at hM
    refine zA ?_
    simp[go_sem,rB]
    by_cases q1:E.err=0
    .have ab:(E.err !=0)=false:=sU q1
     rw[if_pos q1]at hM
     simp[go_sem,ab,lotZ,lotB]
     exact yo3 (l:=⟨m,n,l⟩) hM
    .have ab:(E.err !=0)=true:=sU q1
     rw[if_neg q1]at hM
     simp[go_sem,ab,lotZ,lotB]
     refine za9 [(9,3)] 1 4 sM kR kR ?_
     simp[go_sem]
     exact yo3 (l:=lot0) hM
theorem yE8 (s:List UInt8) (hl:s.length<=maxLen):Pure prog 14 [.str s] (.agg (yC s).1.row):=by
 have h:=xJ4 s hl
 generalize yC s=x at h⊢
 refine iW 0 func14 ntmps14 results14 fun c hc hb=>zK ?_
 simp[go_sem]
 refine pC h ?_
 simp[go_sem,parV]
 exact wR
variable {L:List GToken}
structure EOk (e:GExpr):Prop where
 good:Good e
 wide:Wide e
 size:zr7 e<=4000
structure SOk (st:GStmt):Prop where
 kind:i64R st.kind
 table:st.table.length<=1048576
 items:st.items.length<=12/\ ∀x∈st.items,i64R x.kind/\EOk x.e
 rows:st.rows.length<=20/\ ∀r∈st.rows,r.length<=12/\ ∀e∈r,EOk e
 sets:st.sets.length<=12/\ ∀x∈st.sets,x.name.length<=1048576/\EOk x.e
 where_:EOk st.where_
 order:st.order.length<=1048576
 limit:i64R st.limit
structure LOk (l:GLot):Prop where
 mode:i64R l.mode
 n:i64R l.n
 stmts:l.stmts.length<=12/\ ∀st∈l.stmts,SOk st
theorem xd9:LOk lot0:=⟨by show i64R 0;unfold i64R;decide,by show i64R 0;unfold i64R;decide,A3 _,fun st aa=>by cases aa⟩
structure ES (s:RS) (e:GExpr):Prop where
 good:Good e
 wide:Wide e
 size:s.err=0->zr7 e<=2001
theorem ES.mono {s:RS} {e:GExpr} (h:ES s e) (u:UI L s s'):ES s' e:=⟨h.good,h.wide,fun q=>h.size (u.err q)⟩
theorem ES.ok {s:RS} {e:GExpr} (h:ES s e) (hs:s.err=0):EOk e:=⟨h.good,h.wide,by have:=h.size hs;omega⟩
theorem zQ7 (s:RS):ES s zeroE:=⟨xy0,xH9 rfl,fun _=>by rw[yv6 rfl];decide⟩
theorem yI2 (hL:LIn L) (hG:LGood L) (h2:L.length<=2001) {s:RS} (hs:RIn L s) (ho:s.opn=0):ES (exF L s).2 (exF L s).1:=by
 have h:=xx0 hL hs ho
 have k:=ex_j hL hG hs ho
 exact⟨k.good,h.wide,fun q=>by have:=k.size q;have:=h.rin.at_;omega⟩
theorem yk6 (hG:LGood L) {s:RS} (hs:RIn L s):i64R (numF L s).1:=by
 unfold numF i64R
 split
 .have:=hG.num _ (zC7 hs);simp only;omega
 .simp
structure SS (s:RS) (st:GStmt):Prop where
 kind:i64R st.kind
 table:st.table.length<=1048576
 items:st.items.length<=12/\ ∀x∈st.items,i64R x.kind/\ES s x.e
 rows:st.rows.length<=20/\ ∀r∈st.rows,r.length<=12/\ ∀e∈r,ES s e
 sets:st.sets.length<=12/\ ∀x∈st.sets,x.name.length<=1048576/\ES s x.e
 where_:ES s st.where_
 order:st.order.length<=1048576
 limit:i64R st.limit
theorem SS.mono {s:RS} {st:GStmt} (h:SS s st) (u:UI L s s'):SS s' st:=
 ⟨h.kind,h.table,⟨h.items.1,fun x hx=>⟨(h.items.2 x hx).1,(h.items.2 x hx).2.mono u⟩⟩,⟨h.rows.1,fun r hr=>⟨(h.rows.2 r hr).1,fun e he=>((h.rows.2 r hr).2 e he).mono u⟩⟩,⟨h.sets.1,fun x hx=>⟨(h.sets.2 x hx).1,(h.sets.2 x hx).2.mono u⟩⟩,h.where_.mono u,h.order,h.limit⟩
theorem SS.ok {s:RS} {st:GStmt} (h:SS s st) (hs:s.err=0):SOk st:=
 ⟨h.kind,h.table,⟨h.items.1,fun x hx=>⟨(h.items.2 x hx).1,(h.items.2 x hx).2.ok hs⟩⟩,⟨h.rows.1,fun r hr=>⟨(h.rows.2 r hr).1,fun e he=>((h.rows.2 r hr).2 e he).ok hs⟩⟩,⟨h.sets.1,fun x hx=>⟨(h.sets.2 x hx).1,(h.sets.2 x hx).2.ok hs⟩⟩,h.where_.ok hs,h.order,h.limit⟩
theorem xL4 {s:RS} (h:(endF L s).err=0):s.err=0:=by
 unfold endF at h
 split at h
 .exact absurd h (zm8 dc)
 .exact h
section
variable (hL:LIn L) (hG:LGood L) (h2:L.length<=2001)
include hL hG h2
theorem xM8 {s:RS} (h:RIn L s) (ho:s.opn=0):i64R (zk4 L s).1.kind/\ES (zk4 L s).2 (zk4 L s).1.e:=by
 unfold zk4
 split
 .exact⟨by unfold i64R;simp,zQ7 _⟩
 split
 .rename_i hi
  have h1:=yV hL h hi
  have h3:=h1.trans (yD hL [40] h1.rin)
  have hx:=yI2 hL hG h2 h3.rin (h3.opn.trans ho)
  exact⟨by unfold i64R;simp,hx.mono (yD hL [41] (h3.trans (zN0 hL h3.rin (h3.opn.trans ho))).rin)⟩
 .exact⟨by unfold i64R;simp,yI2 hL hG h2 h ho⟩
theorem yt4: ∀(n:Nat) (l:List GItem) (s:RS),RIn L s->s.opn=0->l.length<=6->(∀x∈l,i64R x.kind/\ES s x.e)->
  (zl9 L n l s).1.length<=12/\ ∀x∈(zl9 L n l s).1,i64R x.kind/\ES (zl9 L n l s).2 x.e
 |0,l,s,_,_,hl,hx=>⟨by simp only[zl9];omega,hx⟩
 |n+1,l,s,h,ho,hl,hx=>by
  unfold zl9
  split
  .rename_i he
   obtain⟨_,h6,_⟩:=zg8 he
   have hu:=yz9 hL h ho
   have hi:=xM8 hL hG h2 h ho
   have ab: ∀x∈l++ [(zk4 L s).1],i64R x.kind/\ES (zk4 L s).2 x.e:=fun x aa=>by
    rw[B5]at aa
    rcases aa with aa|aa
    .exact⟨(hx x aa).1,(hx x aa).2.mono hu⟩
    .simp only[Af,Ay,or_false]at aa
     subst aa
     exact hi
   split
   .have hn:=yV hL hu.rin ‹_›
    exact yt4 n _ _ hn.rin ((hu.trans hn).opn.trans ho) (by simp;omega) (fun x aa=>⟨(ab x aa).1,(ab x aa).2.mono hn⟩)
   .exact⟨by simp;omega,ab⟩
  .exact⟨by simp only;omega,fun x aa=>⟨(hx x aa).1,(hx x aa).2.mono (zn7 h)⟩⟩
theorem xz3 {s:RS} (h:RIn L s) (ho:s.opn=0):(zj9 L s).1.length<=12/\ ∀x∈(zj9 L s).1,i64R x.kind/\ES (zj9 L s).2 x.e:=by
 unfold zj9
 split
 .refine⟨sM,fun x hx=> ?_⟩
  simp only[Af,Ay,or_false]at hx
  subst hx
  exact⟨by unfold i64R;simp,zQ7 _⟩
 .exact yt4 hL hG h2 7 [] s h ho sM (fun x hx=>by cases hx)
theorem xH8 {s:RS} (h:RIn L s) (ho:s.opn=0):ES (whS L s) (whE L s).2:=by
 unfold whS whE
 by_cases q:isT L zG1 s=true
 .rw[if_pos q,if_pos q]
  exact yI2 hL hG h2 (h.next hL q) ho
 .rw[if_neg q,if_neg q]
  exact zQ7 _
theorem xg9: ∀(n:Nat) (l:List GExpr) (s:RS),RIn L s->s.opn=0->l.length<=6->(∀e∈l,ES s e)->
  (rowL L n l s).2.1.length<=12/\ ∀e∈(rowL L n l s).2.1,ES (rowL L n l s).2.2 e
 |0,l,s,_,_,hl,hx=>⟨by simp only[rowL];omega,hx⟩
 |n+1,l,s,h,ho,hl,hx=>by
  unfold rowL
  split
  .rename_i he
   obtain⟨_,h6,_⟩:=zg8 he
   have hu:=zN0 hL h ho
   have hi:=yI2 hL hG h2 h ho
   have ab: ∀x∈l++ [(exF L s).1],ES (exF L s).2 x:=fun x aa=>by
    rw[B5]at aa
    rcases aa with aa|aa
    .exact(hx x aa).mono hu
    .simp only[Af,Ay,or_false]at aa
     subst aa
     exact hi
   split
   .have hn:=yV hL hu.rin ‹_›
    exact xg9 n _ _ hn.rin ((hu.trans hn).opn.trans ho) (by simp;omega) (fun x aa=>(ab x aa).mono hn)
   .exact⟨by simp;omega,ab⟩
  .exact⟨by simp only;omega,fun x aa=>(hx x aa).mono (zn7 h)⟩
theorem yN7: ∀(n:Nat) (R:List (List GExpr)) (s:RS),RIn L s->s.opn=0->R.length<=16->(∀r∈R,r.length<=12/\ ∀e∈r,ES s e)->
  (zt1 L n R s).1.length<=20/\ ∀r∈(zt1 L n R s).1,r.length<=12/\ ∀e∈r,ES (zt1 L n R s).2 e
 |0,R,s,_,_,hl,hx=>⟨by simp only[zt1];omega,hx⟩
 |n+1,R,s,h,ho,hl,hx=>by
  unfold zt1
  split
  .rename_i he
   obtain⟨_,h6,_⟩:=zg8 he
   have aa:=yD hL [40] h
   have hr:=xg9 hL hG h2 7 [] _ aa.rin (aa.opn.trans ho) sM (fun e he=>by cases he)
   have ab:=aa.trans (yC1 hL 7 [] _ aa.rin (aa.opn.trans ho))
   generalize rowL L 7 [] (zV L [40] s)=r at hr ab
   split
   .have ad:=yD hL [41] ab.rin
    have ae: ∀y∈R++ [r.2.1],y.length<=12/\ ∀e∈y,ES (zV L [41] r.2.2) e:=fun y hy=>by
     rw[B5]at hy
     rcases hy with hy|hy
     .exact⟨(hx y hy).1,fun e he=>((hx y hy).2 e he).mono (ab.trans ad)⟩
     .simp only[Af,Ay,or_false]at hy
      subst hy
      exact⟨hr.1,fun e he=>(hr.2 e he).mono ad⟩
    split
    .have hn:=yV hL ad.rin ‹_›
     exact yN7 n _ _ hn.rin (((ab.trans ad).trans hn).opn.trans ho) (by simp;omega) (fun y hy=>⟨(ae y hy).1,fun e he=>((ae y hy).2 e he).mono hn⟩)
    .exact⟨by simp;omega,ae⟩
   .exact⟨by simp only;omega,fun y hy=>⟨(hx y hy).1,fun e he=>((hx y hy).2 e he).mono ab⟩⟩
  .exact⟨by simp only;omega,fun y hy=>⟨(hx y hy).1,fun e he=>((hx y hy).2 e he).mono (zn7 h)⟩⟩
theorem yO6: ∀(n:Nat) (l:List GAssign) (s:RS),RIn L s->s.opn=0->l.length<=6->(∀x∈l,x.name.length<=1048576/\ES s x.e)->
  (zj6 L n l s).2.1.length<=12/\ ∀x∈(zj6 L n l s).2.1,x.name.length<=1048576/\ES (zj6 L n l s).2.2 x.e
 |0,l,s,_,_,hl,hx=>⟨by simp only[zj6];omega,hx⟩
 |n+1,l,s,h,ho,hl,hx=>by
  unfold zj6
  split
  .rename_i he
   obtain⟨_,h6,_⟩:=zg8 he
   have af:=zj3 hG h
   have ad:=zd2 hL h
   have aa:=ad.trans (yD hL [61] ad.rin)
   have hi:=yI2 hL hG h2 aa.rin (aa.opn.trans ho)
   have hu:=aa.trans (zN0 hL aa.rin (aa.opn.trans ho))
   generalize exF L (zV L [61] (yO L s).2)=x at hi hu
   have ab: ∀y∈l++ [⟨(yO L s).1,x.1⟩],y.name.length<=1048576/\ES x.2 y.e:=fun y hy=>by
    rw[B5]at hy
    rcases hy with hy|hy
    .exact⟨(hx y hy).1,(hx y hy).2.mono hu⟩
    .simp only[Af,Ay,or_false]at hy
     subst hy
     exact⟨af,hi⟩
   split
   .have hn:=yV hL hu.rin ‹_›
    exact yO6 n _ _ hn.rin ((hu.trans hn).opn.trans ho) (by simp;omega) (fun y hy=>⟨(ab y hy).1,(ab y hy).2.mono hn⟩)
   .exact⟨by simp;omega,ab⟩
  .exact⟨by simp only;omega,fun x ae=>⟨(hx x ae).1,(hx x ae).2.mono (zn7 h)⟩⟩
theorem yX3 {s:RS} (h:RIn L s) (ho:s.opn=0):SS (zf0 L s).2 (zf0 L s).1:=by
 unfold zf0
 simp only
 have hx:=xz3 hL hG h2 h ho
 have h1:=yj2 hL h ho
 generalize zj9 L s=x at hx h1
 have u2:=yD hL zx5 h1.rin
 have aa:=zj3 hG (h1.trans u2).rin
 have u3:=zd2 hL (h1.trans u2).rin
 generalize yO L (zV L zx5 x.2)=n at aa u3
 have hw:=xH8 hL hG h2 u3.rin ((h1.trans (u2.trans u3)).opn.trans ho)
 have u4:=yw9 hL u3.rin ((h1.trans (u2.trans u3)).opn.trans ho)
 have u5:=yl1 hL u4.rin
 have ab:(zw6 L (whS L n.2)).1.1.length<=1048576:=by
  unfold zw6
  split
  .rename_i hi
   have v1:=yV hL u4.rin hi
   have v2:=v1.trans (yD hL wBY v1.rin)
   split
   .exact zj3 hG v2.rin
   split
   .exact zj3 hG v2.rin
   .exact zj3 hG v2.rin
  .exact A3 _
 generalize zw6 L (whS L n.2)=o at u5 ab
 have u6:=yK0 hL u5.rin
 have ad:i64R (zv8 L o.2).1:=by
  unfold zv8
  split
  .exact yk6 hG (u5.rin.next hL ‹_›)
  .unfold i64R;simp
 generalize zv8 L o.2=l at u6 ad
 have u:=u2.trans (u3.trans (u4.trans (u5.trans u6)))
 exact⟨by unfold i64R;simp,aa,⟨hx.1,fun x ae=>⟨(hx.2 x ae).1,(hx.2 x ae).2.mono u⟩⟩,⟨A3 _,fun r hr=>by cases hr⟩,⟨A3 _,fun r hr=>by cases hr⟩,hw.mono (u5.trans u6),ab,ad⟩
theorem yT5 {s:RS} (h:RIn L s) (ho:s.opn=0):SS (ze4 L s).2 (ze4 L s).1:=by
 unfold ze4
 have u1:=yD hL ya9 h
 have aa:=zj3 hG u1.rin
 have u2:=u1.trans (zd2 hL u1.rin)
 generalize yO L (zV L ya9 s)=n at aa u2
 have u3:=u2.trans (yD hL zG0 u2.rin)
 have hr:=yN7 hL hG h2 17 [] _ u3.rin (u3.opn.trans ho) sM (fun r hr=>by cases hr)
 exact⟨by unfold i64R;simp,aa,⟨A3 _,fun r hr=>by cases hr⟩,hr,⟨A3 _,fun r hr=>by cases hr⟩,zQ7 _,A3 _,by unfold i64R;simp⟩
theorem yY7 {s:RS} (h:RIn L s) (ho:s.opn=0):SS (zf1 L s).2 (zf1 L s).1:=by
 unfold zf1
 have aa:=zj3 hG h
 have u2:=zd2 hL h
 generalize yO L s=n at aa u2
 have u3:=u2.trans (yD hL wSET u2.rin)
 have hr:=yO6 hL hG h2 7 [] _ u3.rin (u3.opn.trans ho) sM (fun r hr=>by cases hr)
 have u4:=u3.trans (ym3 hL 7 [] _ u3.rin (u3.opn.trans ho))
 simp only
 generalize zj6 L 7 [] (zV L wSET n.2)=r at hr u4
 split
 .have hw:=xH8 hL hG h2 u4.rin (u4.opn.trans ho)
  have u5:=yw9 hL u4.rin (u4.opn.trans ho)
  exact⟨by unfold i64R;simp,aa,⟨A3 _,fun r hr=>by cases hr⟩,⟨A3 _,fun r hr=>by cases hr⟩,⟨hr.1,fun x hx=>⟨(hr.2 x hx).1,(hr.2 x hx).2.mono u5⟩⟩,hw,A3 _,by unfold i64R;simp⟩
 .exact⟨by unfold i64R;simp,aa,⟨A3 _,fun r hr=>by cases hr⟩,⟨A3 _,fun r hr=>by cases hr⟩,hr,zQ7 _,A3 _,by unfold i64R;simp⟩
theorem xQ5 {s:RS} (h:RIn L s) (ho:s.opn=0):SS (zd5 L s).2 (zd5 L s).1:=by
 unfold zd5
 split
 .exact yX3 hL hG h2 (h.next hL ‹_›) ho
 split
 .exact yT5 hL hG h2 (h.next hL ‹_›) ho
 split
 .exact yY7 hL hG h2 (h.next hL ‹_›) ho
 .have u1:=yD hL zz7 h
  have u2:=u1.trans (yD hL zx5 u1.rin)
  have aa:=zj3 hG u2.rin
  have u3:=u2.trans (zd2 hL u2.rin)
  exact⟨by unfold i64R;simp,aa,⟨A3 _,fun r hr=>by cases hr⟩,⟨A3 _,fun r hr=>by cases hr⟩,⟨A3 _,fun r hr=>by cases hr⟩,xH8 hL hG h2 u3.rin (u3.opn.trans ho),A3 _,by unfold i64R;simp⟩
theorem yv7: ∀(n:Nat) (l:List GStmt) (s:RS),RIn L s->s.opn=0->l.length<=8->(∀x∈l,SS s x)->
  (zh4 L n l s).1.length<=8/\ ∀x∈(zh4 L n l s).1,SS (zh4 L n l s).2 x
 |0,l,s,_,_,hl,hx=>⟨hl,hx⟩
 |n+1,l,s,h,ho,hl,hx=>by
  unfold zh4
  split
  .split
   .rename_i he
    obtain⟨_,h8,_⟩:=zg8 he
    have hu:=yC7 hL h ho
    have hi:=xQ5 hL hG h2 h ho
    have ad: ∀x∈l++ [(zd5 L s).1],SS (zd5 L s).2 x:=fun x aa=>by
     rw[B5]at aa
     rcases aa with aa|aa
     .exact(hx x aa).mono hu
     .simp only[Af,Ay,or_false]at aa
      subst aa
      exact hi
    have ab:(l++ [(zd5 L s).1]).length<=8:=by simp;omega
    split
    .have hn:=yV hL hu.rin ‹_›
     have ae:=fun x aa=>(ad x aa).mono hn
     split
     .exact⟨ab,ae⟩
     .exact yv7 n _ _ hn.rin ((hu.trans hn).opn.trans ho) ab ae
    .exact⟨ab,ad⟩
   .exact⟨hl,fun x aa=>(hx x aa).mono (zn7 h)⟩
  .exact⟨hl,hx⟩
theorem xP1 (h1:1<=L.length):LOk (yM9 L).1:=by
 have h0:RIn L rs0:=⟨by show 0<_;omega,by show(0:Int)<=0/\(0:Int)<=100000;omega⟩
 unfold yM9
 simp only
 have hs:=yv7 hL hG h2 9 [] rs0 h0 rfl (A3 _) (fun x hx=>by cases hx)
 have hu:=yv8 hL 9 [] rs0 h0 rfl
 generalize zh4 L 9 [] rs0=x at hs hu
 have ha:=xT2 hL hu.rin
 have hm:i64R (asF L x.2).1.1/\i64R (asF L x.2).1.2:=by
  unfold asF
  split
  .rename_i hi
   have v1:=xs8 hL hu.rin hi
   split
   .exact⟨by unfold i64R;simp,yk6 hG (v1.rin.next hL ‹_›)⟩
   .exact⟨by unfold i64R;simp,yk6 hG v1.rin⟩
  .exact⟨by unfold i64R;simp,by unfold i64R;simp⟩
 generalize asF L x.2=a at ha hm
 split
 .rename_i he
  have h3:=ha.err (xL4 he)
  exact⟨hm.1,hm.2,by simp only;omega,fun st aa=>(hs.2 st aa).ok h3⟩
 .exact xd9
end
theorem zC1 (s:List UInt8):LOk (yC s).1:=by
 unfold yC
 split
 .rename_i h
  obtain⟨_,hL,hG,h1,h2⟩:=xd4 h
  exact xP1 hL hG h2 h1
 .exact xd9
end Go.Proofs.YtefbicjgbaaieaaGreat
namespace Go.Proofs.YtefbicjgbaaieaaGreat
open Go Go.Vx R Go.Proofs.Tryz
set_option maxRecDepth 100000
def yF2 (t:GToken):Prop:=t.kind=0∨t.kind=4/\t.s= [59]
structure Ag (L M:List GToken) (k N:Nat):Prop where
 same: ∀i,i<N->(L.getD (k+i) yY).kind=(M.getD i yY).kind/\(L.getD (k+i) yY).s=(M.getD i yY).s/\(L.getD (k+i) yY).n=(M.getD i yY).n
 endL:yF2 (L.getD (k+N) yY)
 endM:yF2 (M.getD N yY)
 lenL:N<=L.length
 lenM:N<=M.length
structure Rl (k N:Nat) (s u:RS):Prop where
 at_:s.at_=k+u.at_
 le:u.at_<=N
 opn:s.opn=u.opn
 err:s.err=u.err
structure Rp {α:Type} (k N a:Nat) (x y:α×RS):Prop where
 eq:x.1=y.1
 rl:Rl k N x.2 y.2
 mono:a<=y.2.at_
section
variable {L M:List GToken} {k N:Nat} (hA:Ag L M k N) {s u:RS}
include hA
theorem zL9 (h:Rl k N s u) (c:Int) (hc:c=1∨c=2∨c=3):((tokF L s).kind=c↔(tokF M u).kind=c)/\((tokF M u).kind=c->u.at_<N/\(tokF L s).s=(tokF M u).s/\(tokF L s).n=(tokF M u).n):=by
 unfold tokF
 rw[h.at_]
 rcases C1 u.at_ N with q|q
 .obtain⟨h1,h2,h3⟩:=hA.same _ q
  rw[h1]
  exact⟨Iff.rfl,fun _=>⟨q,h2,h3⟩⟩
 .have e:u.at_=N:=Nat.le_antisymm h.le q
  rw[e]
  have h1: ¬(L.getD (k+N) yY).kind=c:=fun h=>by rcases hA.endL with e|e<;>omega
  have h2: ¬(M.getD N yY).kind=c:=fun h=>by rcases hA.endM with e|e<;>omega
  exact⟨⟨fun h=>absurd h h1,fun h=>absurd h h2⟩,fun h=>absurd h h2⟩
theorem zc7 (h:Rl k N s u) {w:List UInt8} (hw:w≠ [59]):isT L w s=isT M w u/\(isT M w u=true->u.at_<N):=by
 have he:=h.err
 unfold isT tokF
 rw[h.at_,he]
 rcases C1 u.at_ N with q|q
 .obtain⟨h1,h2,h3⟩:=hA.same _ q
  rw[h1,h2]
  exact⟨rfl,fun _=>q⟩
 .have e:u.at_=N:=Nat.le_antisymm h.le q
  rw[e]
  have no: ∀t:GToken,yF2 t->((t.kind==1||t.kind==4)&&t.s==w)=false:=fun t ht=>by
   rcases ht with ht|⟨ht,hs⟩
   .rw[ht];rfl
   .rw[ht,hs];simpa using fun h=>hw h.symm
  rw[no _ hA.endL,no _ hA.endM]
  exact⟨rfl,fun h=>by simp at h⟩
omit hA in
theorem yU (h:Rl k N s u) (hu:u.at_<N):Rl k N (zJ s) (zJ u):=⟨by show s.at_+1=k+(u.at_+1);rw[h.at_];rfl,hu,h.opn,h.err⟩
omit hA in
theorem zH9 (h:Rl k N s u) (e p p':Int):Rl k N (wM e p s) (wM e p' u):=by
 unfold wM
 rw[h.err]
 split
 .exact⟨h.at_,h.le,h.opn,rfl⟩
 .exact h
omit hA in
theorem zR2 (e p:Int) (s:RS):(wM e p s).at_=s.at_:=by unfold wM;split<;>rfl
theorem wV (h:Rl k N s u) {w:List UInt8} (hw:w≠ [59]):Rl k N (zV L w s) (zV M w u)/\u.at_<=(zV M w u).at_:=by
 obtain⟨h1,h2⟩:=zc7 hA h hw
 unfold zV
 rw[h1]
 split
 .rename_i q;exact⟨yU h (h2 q),E1 _⟩
 .exact⟨zH9 h _ _ _,by rw[zR2];exact A4 _⟩
theorem zw3 (h:Rl k N s u):Rp k N u.at_ (yO L s) (yO M u):=by
 obtain⟨h1,h2⟩:=zL9 hA h 1 (.inl rfl)
 have e:zN4 L s=zN4 M u/\(zN4 M u=true->u.at_<N/\(tokF L s).s=(tokF M u).s):=by
  unfold zN4
  rw[h.err]
  by_cases q:(tokF M u).kind=1
  .obtain⟨a,b,_⟩:=h2 q
   rw[h1.2 q,q,b]
   exact⟨rfl,fun _=>⟨a,rfl⟩⟩
  .have q1:((tokF M u).kind==1)=false:=sU q
   have q2:((tokF L s).kind==1)=false:=by simpa using fun h=>q (h1.1 h)
   rw[q1,q2]
   exact⟨rfl,fun h=>by simp at h⟩
 unfold yO
 rw[e.1]
 split
 .rename_i q;exact⟨(e.2 q).2,yU h (e.2 q).1,E1 _⟩
 .exact⟨rfl,zH9 h _ _ _,by rw[zR2];exact A4 _⟩
theorem xO1 (h:Rl k N s u):Rp k N u.at_ (numF L s) (numF M u):=by
 obtain⟨h1,h2⟩:=zL9 hA h 2 (.inr (.inl rfl))
 have e:numB L s=numB M u/\(numB M u=true->u.at_<N/\(tokF L s).n=(tokF M u).n):=by
  unfold numB
  rw[h.err]
  by_cases q:(tokF M u).kind=2
  .obtain⟨a,_,b⟩:=h2 q
   rw[h1.2 q,q]
   exact⟨rfl,fun _=>⟨a,b⟩⟩
  .have q1:((tokF M u).kind==2)=false:=sU q
   have q2:((tokF L s).kind==2)=false:=by simpa using fun h=>q (h1.1 h)
   rw[q1,q2]
   exact⟨rfl,fun h=>by simp at h⟩
 unfold numF
 rw[e.1]
 split
 .rename_i q;exact⟨(e.2 q).2,yU h (e.2 q).1,E1 _⟩
 .exact⟨rfl,zH9 h _ _ _,by rw[zR2];exact A4 _⟩
theorem zK3 (h:Rl k N s u): ∀{ws:List (List UInt8)},(∀w∈ws,w≠ [59]/\w≠ [])->anyF L s ws=anyF M u ws/\(anyF M u ws≠ []->u.at_<N)
 | [],_=>⟨rfl,fun h=>absurd rfl h⟩
 |w::ws,hw=>by
  obtain⟨h1,h2⟩:=zc7 hA h (hw w (Al ..)).1
  rw[anyF,anyF,h1]
  split
  .rename_i q;exact⟨rfl,fun _=>h2 q⟩
  .exact zK3 h fun x hx=>hw x (Am _ hx)
omit hA in
theorem xf6 (h:Rl k N s u) (p p':Int) (w:List UInt8) (a:List GExpr):Rl k N (opS p w a s) (opS p' w a u)/\(opS p' w a u).at_=u.at_:=by
 unfold opS
 rw[h.err]
 split
 .exact⟨zH9 h _ _ _,zR2 ..⟩
 .exact⟨h,rfl⟩
omit hA in
theorem zL7 {x y:RS} (h:Rl k N x y) (p p':Int) (w:List UInt8) (a:List GExpr) {m:Nat} (hm:m<=y.at_):Rp k N m (opF p w a x) (opF p' w a y):=⟨rfl,(xf6 h p p' w a).1,by show m<=(opS p' w a y).at_;rw[(xf6 h p p' w a).2];exact hm⟩
theorem zI7 {ws:List (List UInt8)} (hw: ∀w∈ws,w≠ [59]/\w≠ []) {f g:RS->PR} (hf: ∀s u,Rl k N s u->Rp k N u.at_ (f s) (g u)): ∀(n m:Nat) {x y:PR} {a:Nat},Rp k N a x y->N - y.2.at_<=n->N - y.2.at_<=m->Rp k N a (opsF L ws f n x) (opsF M ws g m y)
 |0,0,_,_,_,h,_,_=>h
 |0,m+1,x,y,a,h,h1,_=>by
  have h2:=(zK3 hA h.rl hw).2
  rw[opsF,opsF,if_pos (C5 fun q=>by have:=h2 q;omega)]
  exact h
 |n+1,0,x,y,a,h,_,h1=>by
  have h2:=zK3 hA h.rl hw
  rw[opsF,opsF,h2.1,if_pos (C5 fun q=>by have:=h2.2 q;omega)]
  exact h
 |n+1,m+1,x,y,a,h,h1,h2=>by
  obtain⟨e1,e2⟩:=zK3 hA h.rl hw
  rw[opsF,opsF,e1]
  by_cases q:anyF M y.2 ws= []
  .rw[if_pos q,if_pos q];exact h
  rw[if_neg q,if_neg q]
  have hn:=yU h.rl (e2 q)
  have hs:=hf _ _ hn
  have hm:=hs.mono
  have aa:(zJ y.2).at_=y.2.at_+1:=rfl
  have ha:=h.mono
  rw[h.eq,hs.eq]
  have ho:=zL7 hs.rl (tokF L x.2).place (tokF M y.2).place (anyF M y.2 ws) [y.1,(g (zJ y.2)).1] (m:=y.2.at_+1) om
  have hb:=ho.mono
  exact zI7 hw hf n m ⟨ho.eq,ho.rl,om⟩ om om
theorem xu4 {f g:RS->PR} (hf: ∀s u,Rl k N s u->Rp k N u.at_ (f s) (g u)) {x y:PR} {a:Nat} (h:Rp k N a x y):Rp k N a (cmpJ L f x) (cmpJ M g y):=by
 obtain⟨e1,e2⟩:=zc7 hA h.rl (w:=wIS) dc
 have ha:=h.mono
 unfold cmpJ
 rw[e1,h.eq]
 by_cases q:isT M wIS y.2=true
 .rw[if_pos q,if_pos q]
  have hn:=yU h.rl (e2 q)
  obtain⟨e3,e4⟩:=zc7 hA hn (w:=wNOT) dc
  rw[e3]
  have aa:(zJ y.2).at_=y.2.at_+1:=rfl
  by_cases q2:isT M wNOT (zJ y.2)=true
  .rw[if_pos q2,if_pos q2]
   obtain⟨h5,h6⟩:=wV hA (yU hn (e4 q2)) (w:=zo4) dc
   exact zL7 h5 _ _ _ _ (by have:(zJ (zJ y.2)).at_=y.2.at_+2:=rfl;omega)
  .rw[if_neg q2,if_neg q2]
   obtain⟨h5,h6⟩:=wV hA hn (w:=zo4) dc
   exact zL7 h5 _ _ _ _ om
 rw[if_neg q,if_neg q]
 obtain⟨e5,e6⟩:=zK3 hA h.rl (ws:=signsC) dc
 rw[e5]
 by_cases q2:anyF M y.2 signsC= []
 .rw[if_pos q2,if_pos q2];exact h
 rw[if_neg q2,if_neg q2]
 have hs:=hf _ _ (yU h.rl (e6 q2))
 have hm:=hs.mono
 have aa:(zJ y.2).at_=y.2.at_+1:=rfl
 rw[hs.eq]
 exact zL7 hs.rl _ _ _ _ om
theorem xs9 {f g f2 g2:RS->PR} (hf: ∀s u,Rl k N s u->Rp k N u.at_ (f s) (g u)) (aa: ∀s u,Rl k N s u->Rp k N u.at_ (f2 s) (g2 u)) (h:Rl k N s u):Rp k N u.at_ (zy0 L f f2 s) (zy0 M g g2 u):=by
 have hI:=fun w hw=>zc7 hA h (w:=w) hw
 have ab:(zJ u).at_=u.at_+1:=rfl
 have lit: ∀(w:List UInt8) (hw:w≠ [59]) (v:GExpr),isT M w u=true->Rp k N u.at_ (v,zJ s) (v,zJ u):=fun w hw v q=>⟨rfl,yU h ((hI w hw).2 q),by show u.at_<=(zJ u).at_;omega⟩
 unfold zy0
 rw[(hI [45] dc).1,(hI [40] dc).1,(hI [84,82,85,69] dc).1,(hI [70,65,76,83,69] dc).1,(hI zo4 dc).1]
 by_cases q1:isT M [45] u=true
 .rw[if_pos q1,if_pos q1]
  have hs:=hf _ _ (yU h ((hI [45] dc).2 q1))
  have hm:=hs.mono
  rw[hs.eq]
  exact zL7 hs.rl _ _ _ _ om
 rw[if_neg q1,if_neg q1]
 by_cases q2:isT M [40] u=true
 .rw[if_pos q2,if_pos q2]
  have hs:=aa _ _ (yU h ((hI [40] dc).2 q2))
  have hm:=hs.mono
  obtain⟨h5,h6⟩:=wV hA hs.rl (w:= [41]) dc
  exact⟨hs.eq,h5,by show u.at_<=(zV M [41] (g2 (zJ u)).2).at_;omega⟩
 rw[if_neg q2,if_neg q2]
 by_cases q3:isT M [84,82,85,69] u=true
 .rw[if_pos q3,if_pos q3];exact lit _ dc _ q3
 rw[if_neg q3,if_neg q3]
 by_cases q4:isT M [70,65,76,83,69] u=true
 .rw[if_pos q4,if_pos q4];exact lit _ dc _ q4
 rw[if_neg q4,if_neg q4]
 by_cases q5:isT M zo4 u=true
 .rw[if_pos q5,if_pos q5];exact lit _ dc _ q5
 rw[if_neg q5,if_neg q5]
 obtain⟨t1,t2⟩:=zL9 hA h 2 (.inr (.inl rfl))
 by_cases q6:(tokF M u).kind=2
 .obtain⟨a,_,b⟩:=t2 q6
  rw[if_pos (t1.2 q6),if_pos q6,b]
  exact⟨rfl,yU h a,E1 _⟩
 rw[if_neg (fun h=>q6 (t1.1 h)),if_neg q6]
 obtain⟨t1,t2⟩:=zL9 hA h 3 (.inr (.inr rfl))
 by_cases q7:(tokF M u).kind=3
 .obtain⟨a,b,_⟩:=t2 q7
  rw[if_pos (t1.2 q7),if_pos q7,b]
  exact⟨rfl,yU h a,E1 _⟩
 rw[if_neg (fun h=>q7 (t1.1 h)),if_neg q7]
 have hn:=zw3 hA h
 exact⟨congrArg namE hn.eq,hn.rl,hn.mono⟩
omit hA in
theorem xf9 {x y:PR} {a:Nat} (h:Rp k N a x y):Rp k N a (x.1,outF x.2) (y.1,outF y.2):=⟨h.eq,⟨h.rl.at_,h.rl.le,by show x.2.opn - 1=y.2.opn - 1;rw[h.rl.opn],h.rl.err⟩,h.mono⟩
theorem xC9: ∀(f w:Nat) {s u:RS},Rl k N s u->Rp k N u.at_ (pF L f w s) (pF M f w u)
 |0,_,s,u,h=>⟨rfl,h,A4 _⟩
 |f+1,w,s,u,h=>by
  have ih: ∀w s u,Rl k N s u->Rp k N u.at_ (pF L f w s) (pF M f w u):=fun w s u h=>xC9 f w h
  have hr:Rl k N (yE L s) (yE M u)/\(yE M u).at_=u.at_:=by
   unfold yE
   rw[h.err,h.opn]
   split
   .exact⟨⟨h.at_,h.le,rfl,rfl⟩,rfl⟩
   .exact⟨⟨h.at_,h.le,rfl,rfl⟩,rfl⟩
  have body: ∀s u,Rl k N s u->Rp k N u.at_ (zf3 L (pF L f) w s) (zf3 M (pF M f) w u):=fun s u h=>by
   have hl:=hA.lenL
   have hm:=hA.lenM
   match w with
   |0=>exact zI7 hA dc (ih 1) _ _ (ih 1 _ _ h) om om
   |1=>exact zI7 hA dc (ih 2) _ _ (ih 2 _ _ h) om om
   |2=>
    show Rp k N u.at_ (notK L (pF L f 2) (pF L f 3) s) (notK M (pF M f 2) (pF M f 3) u)
    obtain⟨e1,e2⟩:=zc7 hA h (w:=wNOT) dc
    unfold notK
    rw[e1]
    split
    .rename_i q
     have hs:=ih 2 _ _ (yU h (e2 q))
     have hm:=hs.mono
     have aa:(zJ u).at_=u.at_+1:=rfl
     rw[hs.eq]
     exact zL7 hs.rl _ _ _ _ om
    .exact ih 3 _ _ h
   |3=>exact xu4 hA (ih 4) (ih 4 _ _ h)
   |4=>exact zI7 hA dc (ih 5) _ _ (ih 5 _ _ h) om om
   |5=>exact zI7 hA dc (ih 6) _ _ (ih 6 _ _ h) om om
   |n+6=>exact xs9 hA (ih 6) (ih 0) h
  rw[pF,pF]
  unfold ze9
  rw[hr.1.err]
  have hb:=body _ _ hr.1
  rw[hr.2]at hb
  split
  .exact xf9 hb
  .exact xf9 (x:=(zeroE,yE L s)) (y:=(zeroE,yE M u)) ⟨rfl,hr.1,by rw[hr.2];exact A4 _⟩
theorem yf6 (h:Rl k N s u):Rp k N u.at_ (exF L s) (exF M u):=xC9 hA 201 0 h
theorem zS2 (h:Rl k N s u) (n m:Int) {b c:Bool} (hb:b=c):Rl k N (zc0 L n m b s) (zc0 M n m c u)/\(zc0 M n m c u).at_=u.at_:=by
 have _:=hA
 subst hb
 unfold zc0
 rw[h.err]
 split
 .exact⟨zH9 h _ _ _,zR2 ..⟩
 .exact⟨h,rfl⟩
theorem xa4 (h:Rl k N s u) (it:Bool):begF L it s=begF M it u:=by
 have t:=fun c hc=>zL9 hA h c hc
 have kb: ∀c,c=1∨c=2∨c=3->((tokF L s).kind==c)=((tokF M u).kind==c):=fun c hc=>by
  by_cases q:(tokF M u).kind=c
  .rw[q,(t c hc).1.2 q]
  .have q2: ¬(tokF L s).kind=c:=fun h=>q ((t c hc).1.1 h)
   rw[beq_eq_false_iff_ne.2 q,beq_eq_false_iff_ne.2 q2]
 have kw:((tokF L s).kind==1&&zi6 (tokF L s).s)=((tokF M u).kind==1&&zi6 (tokF M u).s):=by
  rw[kb 1 (.inl rfl)]
  by_cases q:(tokF M u).kind=1
  .rw[((t 1 (.inl rfl)).2 q).2.1]
  .rw[beq_eq_false_iff_ne.2 q];rfl
 unfold begF
 rw[kb 2 (.inr (.inl rfl)),kb 3 (.inr (.inr rfl)),kw,(zc7 hA h (w:=zF9) dc).1,(zc7 hA h (w:=wSUM) dc).1,(zK3 hA h (ws:=yC3) dc).1]
theorem yZ0 (h:Rl k N s u):whE L s=whE M u/\Rl k N (whS L s) (whS M u)/\u.at_<=(whS M u).at_:=by
 obtain⟨e1,e2⟩:=zc7 hA h (w:=zG1) dc
 unfold whE whS
 rw[e1]
 by_cases q:isT M zG1 u=true
 .have hs:=yf6 hA (yU h (e2 q))
  have hm:=hs.mono
  have aa:(zJ u).at_=u.at_+1:=rfl
  rw[if_pos q,if_pos q,if_pos q,if_pos q,hs.eq]
  exact⟨rfl,hs.rl,om⟩
 .rw[if_neg q,if_neg q,if_neg q,if_neg q]
  exact⟨rfl,h,A4 _⟩
theorem xz2 (h:Rl k N s u):Rp k N u.at_ (zk4 L s) (zk4 M u):=by
 obtain⟨e1,e2⟩:=zc7 hA h (w:=zF9) dc
 obtain⟨e3,e4⟩:=zc7 hA h (w:=wSUM) dc
 have aa:(zJ u).at_=u.at_+1:=rfl
 unfold zk4
 rw[e1,e3]
 by_cases q:isT M zF9 u=true
 .rw[if_pos q,if_pos q]
  obtain⟨h1,m1⟩:=wV hA (yU h (e2 q)) (w:= [40]) dc
  obtain⟨h2,m2⟩:=wV hA h1 (w:= [42]) dc
  obtain⟨h3,m3⟩:=wV hA h2 (w:= [41]) dc
  exact⟨rfl,h3,by simp only;omega⟩
 rw[if_neg q,if_neg q]
 by_cases q:isT M wSUM u=true
 .rw[if_pos q,if_pos q]
  obtain⟨h1,m1⟩:=wV hA (yU h (e4 q)) (w:= [40]) dc
  have h2:=yf6 hA h1
  have m2:=h2.mono
  obtain⟨h3,m3⟩:=wV hA h2.rl (w:= [41]) dc
  exact⟨by simp only[h2.eq],h3,by simp only;omega⟩
 rw[if_neg q,if_neg q]
 have h2:=yf6 hA h
 exact⟨by simp only[h2.eq],h2.rl,h2.mono⟩
theorem yj1: ∀(n:Nat) (l:List GItem) {s u:RS},Rl k N s u->Rp k N u.at_ (zl9 L n l s) (zl9 M n l u)
 |0,_,_,_,h=>⟨rfl,h,A4 _⟩
 |n+1,l,s,u,h=>by
  have hm:=zS2 hA h l.length 6 (xa4 hA h true)
  rw[zl9,zl9,hm.1.err]
  split
  .have hi:=xz2 hA h
   have m1:=hi.mono
   obtain⟨e1,e2⟩:=zc7 hA hi.rl (w:= [44]) dc
   rw[e1,hi.eq]
   split
   .rename_i q
    have hr:=yj1 n (l++ [(zk4 M u).1]) (yU hi.rl (e2 q))
    have m2:=hr.mono
    have m3:(zJ (zk4 M u).2).at_=(zk4 M u).2.at_+1:=rfl
    exact⟨hr.eq,hr.rl,om⟩
   .exact⟨rfl,hi.rl,m1⟩
  .exact⟨rfl,hm.1,by simp only[hm.2];omega⟩
theorem xl5 (h:Rl k N s u):Rp k N u.at_ (zj9 L s) (zj9 M u):=by
 obtain⟨e1,e2⟩:=zc7 hA h (w:= [42]) dc
 unfold zj9
 rw[e1]
 split
 .rename_i q;exact⟨rfl,yU h (e2 q),E1 _⟩
 .exact yj1 hA 7 [] h
theorem xp1 (h:Rl k N s u):Rp k N u.at_ (zw6 L s) (zw6 M u):=by
 obtain⟨e1,e2⟩:=zc7 hA h (w:=yn6) dc
 unfold zw6
 rw[e1]
 by_cases q:isT M yn6 u=true
 rotate_left
 .rw[if_neg q,if_neg q];exact⟨rfl,h,A4 _⟩
 have m0:(zJ u).at_=u.at_+1:=rfl
 obtain⟨h1,m1⟩:=wV hA (yU h (e2 q)) (w:=wBY) dc
 have h2:=zw3 hA h1
 have m2:=h2.mono
 obtain⟨e3,e4⟩:=zc7 hA h2.rl (w:=wASC) dc
 obtain⟨e5,e6⟩:=zc7 hA h2.rl (w:=xi8) dc
 have m3:(zJ (yO M (zV M wBY (zJ u))).2).at_=(yO M (zV M wBY (zJ u))).2.at_+1:=rfl
 rw[if_pos q,if_pos q,e3,e5,h2.eq]
 split
 .rename_i q;exact⟨rfl,yU h2.rl (e4 q),by simp only;omega⟩
 split
 .rename_i q;exact⟨rfl,yU h2.rl (e6 q),by simp only;omega⟩
 .exact⟨rfl,h2.rl,by simp only;omega⟩
theorem xm6 (h:Rl k N s u):Rp k N u.at_ (zv8 L s) (zv8 M u):=by
 obtain⟨e1,e2⟩:=zc7 hA h (w:=zA7) dc
 unfold zv8
 rw[e1]
 split
 .rename_i q
  have hn:=xO1 hA (yU h (e2 q))
  have m1:=hn.mono
  have m0:(zJ u).at_=u.at_+1:=rfl
  exact⟨hn.eq,hn.rl,om⟩
 .exact⟨rfl,h,A4 _⟩
theorem yO3 (h:Rl k N s u):Rp k N u.at_ (zf0 L s) (zf0 M u):=by
 have h1:=xl5 hA h
 obtain⟨h2,m2⟩:=wV hA h1.rl (w:=zx5) dc
 have h3:=zw3 hA h2
 obtain⟨h4,h5,m5⟩:=yZ0 hA h3.rl
 have h6:=xp1 hA h5
 have h7:=xm6 hA h6.rl
 have m1:=h1.mono
 have m3:=h3.mono
 have m6:=h6.mono
 have m7:=h7.mono
 unfold zf0
 simp only
 rw[h1.eq,h3.eq,h4,h6.eq,h7.eq]
 exact⟨rfl,h7.rl,by simp only;omega⟩
theorem yN5: ∀(n:Nat) (l:List GExpr) {s u:RS},Rl k N s u->(rowL L n l s).1=(rowL M n l u).1/\(rowL L n l s).2.1=(rowL M n l u).2.1/\Rl k N (rowL L n l s).2.2 (rowL M n l u).2.2/\u.at_<=(rowL M n l u).2.2.at_
 |0,_,_,_,h=>⟨rfl,rfl,h,A4 _⟩
 |n+1,l,s,u,h=>by
  have hm:=zS2 hA h l.length 6 (xa4 hA h false)
  rw[rowL,rowL,hm.1.err]
  split
  .have hi:=yf6 hA h
   have m1:=hi.mono
   obtain⟨e1,e2⟩:=zc7 hA hi.rl (w:= [44]) dc
   rw[e1,hi.eq]
   split
   .rename_i q
    obtain⟨r1,r2,r3,m2⟩:=yN5 n (l++ [(exF M u).1]) (yU hi.rl (e2 q))
    have m3:(zJ (exF M u).2).at_=(exF M u).2.at_+1:=rfl
    exact⟨r1,r2,r3,om⟩
   .exact⟨rfl,rfl,hi.rl,m1⟩
  .exact⟨rfl,rfl,hm.1,by simp only[hm.2];omega⟩
theorem yv3: ∀(n:Nat) (R:List (List GExpr)) {s u:RS},Rl k N s u->Rp k N u.at_ (zt1 L n R s) (zt1 M n R u)
 |0,_,_,_,h=>⟨rfl,h,A4 _⟩
 |n+1,R,s,u,h=>by
  have hm:=zS2 hA h R.length 16 (zc7 hA h (w:= [40]) dc).1
  rw[zt1,zt1,hm.1.err]
  split
  .obtain⟨h1,m1⟩:=wV hA h (w:= [40]) dc
   obtain⟨r1,r2,r3,m2⟩:=yN5 hA 7 [] h1
   rw[r1,r2]
   split
   .obtain⟨h4,m4⟩:=wV hA r3 (w:= [41]) dc
    obtain⟨e1,e2⟩:=zc7 hA h4 (w:= [44]) dc
    rw[e1]
    split
    .rename_i q
     have hr:=yv3 n (R++ [(rowL M 7 [] (zV M [40] u)).2.1]) (yU h4 (e2 q))
     have m5:=hr.mono
     have m6:(zJ (zV M [41] (rowL M 7 [] (zV M [40] u)).2.2)).at_=(zV M [41] (rowL M 7 [] (zV M [40] u)).2.2).at_+1:=rfl
     exact⟨hr.eq,hr.rl,om⟩
    .exact⟨rfl,h4,by simp only;omega⟩
   .exact⟨rfl,r3,by simp only;omega⟩
  .exact⟨rfl,hm.1,by simp only[hm.2];omega⟩
theorem yJ4 (h:Rl k N s u):Rp k N u.at_ (ze4 L s) (ze4 M u):=by
 obtain⟨h1,m1⟩:=wV hA h (w:=ya9) dc
 have h2:=zw3 hA h1
 obtain⟨h3,m3⟩:=wV hA h2.rl (w:=zG0) dc
 have h4:=yv3 hA 17 [] h3
 have m2:=h2.mono
 have m4:=h4.mono
 unfold ze4
 simp only
 rw[h2.eq,h4.eq]
 exact⟨rfl,h4.rl,by simp only;omega⟩
theorem yT9 (h:Rl k N s u):zE3 L s=zE3 M u:=by
 obtain⟨t1,t2⟩:=zL9 hA h 1 (.inl rfl)
 unfold zE3
 by_cases q:(tokF M u).kind=1
 .rw[t1.2 q,q,(t2 q).2.1]
 .rw[beq_eq_false_iff_ne.2 q,beq_eq_false_iff_ne.2 fun h=>q (t1.1 h)];rfl
theorem yv5: ∀(n:Nat) (l:List GAssign) {s u:RS},Rl k N s u->(zj6 L n l s).1=(zj6 M n l u).1/\(zj6 L n l s).2.1=(zj6 M n l u).2.1/\Rl k N (zj6 L n l s).2.2 (zj6 M n l u).2.2/\u.at_<=(zj6 M n l u).2.2.at_
 |0,_,_,_,h=>⟨rfl,rfl,h,A4 _⟩
 |n+1,l,s,u,h=>by
  have hm:=zS2 hA h l.length 6 (yT9 hA h)
  rw[zj6,zj6,hm.1.err]
  split
  .have h1:=zw3 hA h
   obtain⟨h2,m2⟩:=wV hA h1.rl (w:= [61]) dc
   have hi:=yf6 hA h2
   have m1:=h1.mono
   have m4:=hi.mono
   obtain⟨e1,e2⟩:=zc7 hA hi.rl (w:= [44]) dc
   rw[e1,hi.eq,h1.eq]
   split
   .rename_i q
    obtain⟨r1,r2,r3,m5⟩:=yv5 n (l++ [⟨(yO M u).1,(exF M (zV M [61] (yO M u).2)).1⟩]) (yU hi.rl (e2 q))
    have m3:(zJ (exF M (zV M [61] (yO M u).2)).2).at_=(exF M (zV M [61] (yO M u).2)).2.at_+1:=rfl
    exact⟨r1,r2,r3,om⟩
   .exact⟨rfl,rfl,hi.rl,by simp only;omega⟩
  .exact⟨rfl,rfl,hm.1,by simp only[hm.2];omega⟩
theorem yQ0 (h:Rl k N s u):Rp k N u.at_ (zf1 L s) (zf1 M u):=by
 have h1:=zw3 hA h
 obtain⟨h2,m2⟩:=wV hA h1.rl (w:=wSET) dc
 obtain⟨r1,r2,r3,m3⟩:=yv5 hA 7 [] h2
 have m1:=h1.mono
 unfold zf1
 simp only
 rw[r1,r2,h1.eq]
 split
 .obtain⟨h4,h5,m5⟩:=yZ0 hA r3
  rw[h4]
  exact⟨rfl,h5,by simp only;omega⟩
 .exact⟨rfl,r3,by simp only;omega⟩
theorem xF5 (h:Rl k N s u):Rp k N u.at_ (zd5 L s) (zd5 M u):=by
 have hI:=fun w hw=>zc7 hA h (w:=w) hw
 have m0:(zJ u).at_=u.at_+1:=rfl
 unfold zd5
 rw[(hI zM4 dc).1,(hI zM3 dc).1,(hI zM5 dc).1]
 split
 .rename_i q
  have h1:=yO3 hA (yU h ((hI zM4 dc).2 q))
  have:=h1.mono
  exact⟨h1.eq,h1.rl,om⟩
 split
 .rename_i q
  have h1:=yJ4 hA (yU h ((hI zM3 dc).2 q))
  have:=h1.mono
  exact⟨h1.eq,h1.rl,om⟩
 split
 .rename_i q
  have h1:=yQ0 hA (yU h ((hI zM5 dc).2 q))
  have:=h1.mono
  exact⟨h1.eq,h1.rl,om⟩
 obtain⟨h1,m1⟩:=wV hA h (w:=zz7) dc
 obtain⟨h2,m2⟩:=wV hA h1 (w:=zx5) dc
 have h3:=zw3 hA h2
 have m3:=h3.mono
 obtain⟨h4,h5,m5⟩:=yZ0 hA h3.rl
 simp only
 rw[h3.eq,h4]
 exact⟨rfl,h5,by simp only;omega⟩
end
end Go.Proofs.YtefbicjgbaaieaaGreat
namespace Go.Proofs.YtefbicjgbaaieaaGreat
open Go Go.Vx Go.Proofs.Tryz
set_option maxRecDepth 100000
def xh8 (s:List UInt8):List UInt8:=if s= [60]then [62]else if s= [60,61]then [62,61]else if s= [62]then [60]else if s= [62,61]then [60,61]else s
theorem xG3 (s:List UInt8):Pure prog 180 [.str s] (.str (xh8 s)):=by
 generalize hM:xh8 s=M
 have ret: ∀(r:List UInt8) (σ:St),r=M->wret (some (.str r)) 0 (fun r s=>r= .str M/\s= []) σ:=fun r σ h=>by subst h;exact wR
 unfold xh8 at hM
 refine iW 0 func180 ntmps180 results180 fun c hc hb=>zK ?_
 simp[go_sem]
 repeat' (first|(refine xB (fun q=> ?_) (fun q=> ?_)<;>simp[go_sem,q])|(refine zR (fun q=> ?_) (fun q=> ?_)<;>simp[go_sem,q]))
 all_goals exact ret _ _ (by simp_all)
def opsTwo:List (List UInt8):= [[79,82],[65,78,68],[61],[60,62],[60],[60,61],[62],[62,61],[43],[45],[42],[47],[37]]
def opsOne:List (List UInt8):= [[78,79,84],[73,83,78,85,76,76],[78,79,84,78,85,76,76],[78,69,71]]
def zG3 (s:List UInt8):Int:=if opsTwo.contains s=true then 2 else if opsOne.contains s=true then 1 else 0
def zx4 (b:Bool):GValue:=⟨1,if b then 1 else 0,[]⟩
theorem zM0 (b:Bool):Pure prog 226 [.bool b] (.agg (zx4 b).row):=by
 refine iW 0 func226 ntmps226 results226 fun c hc hb=>zK ?_
 simp[go_sem]
 cases b<;>simp[go_sem]<;>exact wR
theorem yA7 (v:GValue):Pure prog 314 [.agg v.row] (.bool (v.kind==0)):=by
 refine iW 0 func314 ntmps314 results314 fun c hc hb=>zK ?_
 simp[go_sem]
 exact wR
def zT3 (many such:Bool) (k:Int):Int×Int:=if many=false then(0,9)else if such=false then(0,15)else(k,0)
def wK (r:Int×Int):V:= .tup [.int .i64 r.1,.int .i64 r.2]
theorem wW {r:Int×Int} {a e:Int} {σ:St} (h:r=(a,e)):wret (some (.tup [.int .i64 a,.int .i64 e])) 0 (fun v s=>v=wK r/\s= []) σ:=by
 subst h
 exact wR
theorem yD1 (many aa:Bool) (k:Int):Pure prog 347 [.bool many,.bool aa,.int .i64 k] (wK (zT3 many aa k)):=by
 refine iW 0 func347 ntmps347 results347 fun c hc hb=>zK ?_
 cases many<;>cases aa<;>simp[go_sem]<;>exact wW rfl
def allK (l:List Int) (k:Int):Bool:=l.all fun x=>x==k||x==0
theorem xa0 (l:List Int) (k:Int) (hl:l.length<=maxLen):Pure prog 348 [.sl .ro (l.map fun n=> [V.int .i64 n]),.int .i64 k] (.bool (allK l k)):=by
 generalize hM:allK l k=M
 have ret: ∀(r:Bool) (σ:St),r=M->wret (some (.bool r)) 0 (fun r s=>r= .bool M/\s= []) σ:=fun r σ h=>by subst h;exact wR
 unfold allK at hM
 refine iV 0 func348 ntmps348 results348 fun c hc hb=> ?_
 refine zA ?_
 simp[go_sem]
 refine zH (S:=Nat) [1,7,8,9] (fun i=> [.int .i64 k,.sl .ro (l.map fun n=> [V.int .i64 n]),.int .i64 l.length,.int .i64 i]) (fun _=> []) (fun i=>l.length - i) (fun i=>i<=l.length/\((l.drop i).all fun x=>x==k||x==0)=M) hc hb 0 ⟨A3 _,hM⟩ ?_ ?_
 .exact aO
 rintro i ⟨hi,hinv⟩
 by_cases q:i<l.length
 rotate_left
 .have e:l.drop i= []:=A9 om
  rw[e]at hinv
  refine zA ?_
  simp[go_sem,q]
  exact ret _ _ hinv
 have ei:=zS q (by unfold maxLen at hl;omega)
 obtain⟨r,hr⟩:=eX (l[i])
 rw[A5 q,Ac,hr]at hinv
 refine zA ?_
 simp[go_sem,q,hr]
 by_cases w1:r=k
 .simp[go_sem,w1,ei]
  rw[w1,beq_self_eq_true,Dd,Au]at hinv
  exact zG (i+1) ⟨om,⟨q,hinv⟩,aO⟩
 have aa:(r !=k)=true:=sU w1
 by_cases w2:r=0
 .have w3:(r !=0)=false:=by simp[w2]
  simp[go_sem,aa,w3,ei]
  rw[w2,beq_self_eq_true,E4,Au]at hinv
  exact zG (i+1) ⟨om,⟨q,hinv⟩,aO⟩
 have ab:(r !=0)=true:=sU w2
 simp[go_sem,aa,ab]
 exact ret _ _ (by rw[<-hinv,show(r==k)=false by simpa using w1,show(r==0)=false by simpa using w2];rfl)
def zw5 (s:List UInt8) (l:List Int):Int×Int:=
 if s= [73,83,78,85,76,76]∨s= [78,79,84,78,85,76,76]then zT3 ((l.length:Int)==1) true 1
 else if s= [78,79,84]then zT3 ((l.length:Int)==1) (allK l 1) 1
 else if s= [78,69,71]then zT3 ((l.length:Int)==1) (allK l 2) 2
 else if s= [79,82]∨s= [65,78,68]then zT3 ((l.length:Int)==2) (allK l 1) 1
 else if s= [43]∨s= [45]∨s= [42]∨s= [47]∨s= [37]then zT3 ((l.length:Int)==2) (allK l 2) 2
 else if s= [61]∨s= [60,62]∨s= [60]∨s= [60,61]∨s= [62]∨s= [62,61]then
  zT3 ((l.length:Int)==2) ((l.length:Int)==2&&(l.getD 0 0==l.getD 1 0||(l.getD 0 0==0||l.getD 1 0==0))) 1
 else(0,9)
theorem yM4 (s:List UInt8) (x y:Int):Pure prog 313 [.str s,.sl .ro [[.int .i64 x],[.int .i64 y]]] (wK (zw5 s [x,y])):=by
 generalize hM:zw5 s [x,y]=M
 have ret: ∀(r:Int×Int) (σ:St),r=M->wret (some (.tup [.int .i64 r.1,.int .i64 r.2])) 0 (fun r s=>r=wK M/\s= []) σ:=fun r σ h=>by subst h;exact xP (zC rfl) (by trivial)
 unfold zw5 at hM
 have h1:=xa0 [x,y] 1 (by unfold maxLen;simp)
 have h2:=xa0 [x,y] 2 (by unfold maxLen;simp)
 simp only[Ai,Bm]at h1 h2
 generalize allK [x,y] 1=a1 at h1 hM
 generalize allK [x,y] 2=a2 at h2 hM
 simp only[Dw,List.getD_cons_succ]at hM
 refine iW 0 func313 ntmps313 results313 fun c hc hb=>zK ?_
 simp[go_sem]
 repeat' (first
  |(refine zR (fun q=> ?_) (fun q=> ?_)<;>simp[go_sem,q])
  |(refine xB (fun q=> ?_) (fun q=> ?_)<;>simp[go_sem,q])
  |(refine xA [(23,0)] 0 rfl kR kR ?_;simp[go_sem])
  |(refine pC h1 ?_;simp[go_sem])
  |(refine pC h2 ?_;simp[go_sem])
  |(refine pC (yD1 _ _ _) ?_;simp[go_sem,wK])
  |(refine pD (yD1 _ _ _) ?_;simp[go_sem,wK]))
 all_goals first|exact ret _ _ (by simp_all)|exact ret (0,9) _ (by simp_all)
theorem yM5 (s:List UInt8) (l:List Int) (hl:l.length<=maxLen) (hn:((l.length:Int)==2)=false):Pure prog 313 [.str s,.sl .ro (l.map fun n=> [V.int .i64 n])] (wK (zw5 s l)):=by
 generalize hM:zw5 s l=M
 have ret: ∀(r:Int×Int) (σ:St),r=M->wret (some (.tup [.int .i64 r.1,.int .i64 r.2])) 0 (fun r s=>r=wK M/\s= []) σ:=fun r σ h=>by subst h;exact xP (zC rfl) (by trivial)
 unfold zw5 at hM
 have h1:=xa0 l 1 hl
 have h2:=xa0 l 2 hl
 generalize allK l 1=a1 at h1 hM
 generalize allK l 2=a2 at h2 hM
 simp only[hn,Ds]at hM
 refine iW 0 func313 ntmps313 results313 fun c hc hb=>zK ?_
 simp[go_sem]
 repeat' (first
  |(refine zR (fun q=> ?_) (fun q=> ?_)<;>simp[go_sem,q,hn])
  |(refine xA [(23,0)] 0 rfl kR kR ?_;simp[go_sem])
  |(refine pC h1 ?_;simp[go_sem])
  |(refine pC h2 ?_;simp[go_sem])
  |(refine pC (yD1 _ _ _) ?_;simp[go_sem,wK])
  |(refine pD (yD1 _ _ _) ?_;simp[go_sem,wK]))
 all_goals first|exact ret _ _ (by simp_all)|exact ret (0,9) _ (by simp_all)
theorem yW0 (s:List UInt8) (l:List Int) (hl:l.length<=maxLen):Pure prog 313 [.str s,.sl .ro (l.map fun n=> [V.int .i64 n])] (wK (zw5 s l)):=by
 by_cases h:l.length=2
 .match l,h with
  | [x,y],_=>grind[yM4]
 grind[yM5]
theorem yO7 (l:List GExpr) (i:Nat) (h:i<l.length):zo0 (l.drop i)=zr7 l[i]+zo0 (l.drop (i+1)):=by
 rw[A5 h,zo0]
theorem yH1 (l:List GExpr) (i:Nat) (h:i<l.length):wI (l.drop i)=max (za0 l[i]) (wI (l.drop (i+1))):=by
 rw[A5 h,wI]
theorem xq1 (e:GExpr):1<=zr7 e:=by rw[zJ3];omega
theorem zK8 (e:GExpr):1<=za0 e:=by rw[zk2];omega
def xE8 (e:GExpr) (deep n:Int) (r:V) (σ:St):Prop:=r= .bool (decide ((za0 e:Int)+deep<=65))/\ ∃m:Int,σ= [.box [.int .i64 m]]/\n<=m/\m<=n+zr7 e
theorem xh6: ∀(k:Nat) (e:GExpr) (deep n:Int),za0 e<=k->Wide e->0<=n->n+zr7 e<=4096->0<=deep->deep<=1000000->VCalls prog 252 [.agg e.row,.int .i64 deep,.ptr 0 0] [.box [.int .i64 n]] (xE8 e deep n)
 |0,e,_,_,h,_,_,_,_,_=>by have:=zK8 e;omega
 |k+1,e,deep,n,h,hw,ar,al,au,av=>by
  have ih:=xh6 k
  have an:=zk2 e
  have ag:=zJ3 e
  obtain⟨M,hM⟩:=eX (decide ((za0 e:Int)+deep<=65))
  unfold xE8
  rw[hM]
  obtain⟨args,aa⟩:=eX e.args
  have hlen:=hw.len
  have ae:=hw.sub
  rw[aa]at an ag hlen ae
  have e1:IntKind.i64.wrap (n+1)=n+1:=i64_id om om
  have e2:IntKind.i64.wrap (deep+1)=deep+1:=i64_id om om
  obtain⟨sz,ao⟩:=eX (zr7 e)
  rw[ao]at ag al⊢
  have ret: ∀(b:Bool) (m:Int) (τ:St),b=M->n<=m->m<=n+sz->wret (some (.bool b)) 1 (fun r σ=>r= .bool M/\ ∃m:Int,σ= [.box [.int .i64 m]]/\n<=m/\m<=n+sz) (.box [.int .i64 m]::τ):=fun b m τ h1 h2 h3=>by
   subst h1
   exact xM 1 rfl rfl (by rfl) (A4 _) (zC rfl) ⟨rfl,m,rfl,h2,h3⟩
  refine iV 1 func252 ntmps252 results252 fun c hc hb=> ?_
  refine zA ?_
  simp[go_sem,e1]
  by_cases q1:64<deep
  .have af:decide (64<deep)=true:=decide_eq_true q1
   have hM:false=M:=by rw[<-hM];exact(decide_eq_false om).symm
   simp[go_sem,af]
   exact ret _ _ _ hM om om
  have af:decide (64<deep)=false:=decide_eq_false q1
  have aq:decide (4096<n+1)=false:=decide_eq_false om
  simp[go_sem,af,aq,aa]
  refine zH (S:=Nat×Int) [1,2,23,24,25] (fun u=> [.int .i64 deep,.ptr 0 0,.sl .ro (args.map GExpr.row),.int .i64 args.length,.int .i64 (u.1:Int)]) (fun u=> [.box [.int .i64 u.2]]) (fun u=>args.length - u.1)
   (fun u=>u.1<=args.length/\n<=u.2/\u.2+zo0 (args.drop u.1)<=n+sz/\decide ((wI (args.drop u.1):Int)+(deep+1)<=65)=M) hc hb (0,n+1)
   ⟨A3 _,by simp only;omega,by simp only[B1];omega,by rw[<-hM,B1];exact decide_eq_decide.2 om⟩ ?_ ?_
  .exact aN 1 (by rfl)
  rintro⟨i,m⟩ ⟨hi,ah,ad,hinv⟩
  simp only at hi ah ad hinv
  by_cases q:i<args.length
  rotate_left
  .rw[A9 om]at hinv ad
   have hinv:true=M:=by rw[<-hinv,wI];exact(decide_eq_true om).symm
   refine zA ?_
   simp[go_sem,q]
   exact ret _ _ _ hinv ah (by rw[zo0]at ad;omega)
  have ei:=zS q om
  have ai:=yO7 args i q
  have aj:=yH1 args i q
  obtain⟨x,hx⟩:=eX (args[i])
  have ak:x∈args:=hx▸Ab q
  have aw:=zl8 args x ak
  rw[hx]at ai aj
  rw[ai]at ad
  rw[aj]at hinv
  have ab:=ih x (deep+1) m om (ae x ak) om om om om
  by_cases q3:(za0 x:Int)+(deep+1)<=65
  .refine zA ?_
   simp[go_sem,q,hx,e2]
   refine zm2 0 ab cB rfl (by rfl) ⟨.inl (by simp[go_sem,renS,renA,renC,renK]),zC rfl,.inl rfl,tV⟩ (fun r σ h=>by
    obtain⟨_,m2,rfl,_⟩:=h
    exact⟨_,rfl,rfl⟩) ?_
   rintro r o2 ⟨rfl,m2,h1,h2,h3⟩
   obtain rfl:o2= .box [.int .i64 m2]:=sU h1
   rw[decide_eq_true q3]
   simp[go_sem,ei]
   refine zG (i+1,m2) ⟨by simp only;omega,⟨by simp only;omega,by simp only;omega,by simp only;omega, ?_⟩, ?_⟩
   .rw[<-hinv]
    show decide ((wI (args.drop (i+1)):Int)+(deep+1)<=65)=_
    exact decide_eq_decide.2 om
   .exact aN 1 (by rfl)
  .have hinv:false=M:=by rw[<-hinv];exact(decide_eq_false om).symm
   refine zA ?_
   simp[go_sem,q,hx,e2]
   refine zm2 0 ab cB rfl (by rfl) ⟨.inl (by simp[go_sem,renS,renA,renC,renK]),zC rfl,.inl rfl,tV⟩ (fun r σ h=>by
    obtain⟨_,m2,rfl,_⟩:=h
    exact⟨_,rfl,rfl⟩) ?_
   rintro r o2 ⟨rfl,m2,h1,h2,h3⟩
   obtain rfl:o2= .box [.int .i64 m2]:=sU h1
   rw[decide_eq_false q3]
   simp[go_sem]
   exact ret _ _ _ hinv om om
end Go.Proofs.YtefbicjgbaaieaaGreat
