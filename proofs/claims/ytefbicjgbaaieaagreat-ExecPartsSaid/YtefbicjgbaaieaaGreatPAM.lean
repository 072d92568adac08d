/-
  The document's lexer, over trees (the library Vx); used by the theorem at the end of the claim.
  Conditions: as each theorem states them.
-/
import Derived.Test.YtefbicjgbaaieaaGreatPAL
set_option maxHeartbeats 8000000
namespace Go.Proofs.YtefbicjgbaaieaaGreat
open Go Go.Vx Go.Proofs.Tryz
set_option maxRecDepth 100000
theorem yz8 {x:GExpr} (h:Wide x): ∀e∈ [x],Wide e:=fun e he=>by
 simp only[Ak,Bf,or_false]at he
 subst he
 exact h
theorem xV5 {x y:GExpr} (h:Wide x) (h2:Wide y): ∀e∈ [x,y],Wide e:=fun e he=>by
 simp only[Ak,Bf,or_false]at he
 rcases he with rfl|rfl
 .exact h
 .exact h2
theorem xX7 (L:List GToken) (hL:LIn L) (rec:Nat->RS->PR) (s:RS) (hs:RIn L s) (h2:s.opn<=200) (aj:s.opn+1<=200->PW L rec (s.opn+1)):
  VCalls prog 355 [.ptr 0 0] [rB L s] (RR L (zf0 L (zg6 L rec 2) s)):=by
 have hr:=zN3 L hL s hs om
 have aa:=zk4 hs h2
 have ad:=zb7 (L:=L) s
 have ak:=zg3 (L:=L) (s:=s)
 have ho:=hs.opn
 have hM:zf0 L (zg6 L rec 2) s=if(yM L s).err=0 then((notK L (rec 2) (rec 3) (yM L s)).1,outF (notK L (rec 2) (rec 3) (yM L s)).2)else(zeroE,outF (yM L s)):=rfl
 generalize zf0 L (zg6 L rec 2) s=M at hM⊢
 generalize yM L s=s1 at hr aa ad ak hM
 have eo:=zD7 (o:=s1.opn) om om
 refine iW 1 func355 ntmps355 results355 fun c hc hb=>zJ ?_
 by_cases q1:s1.err=0
 rotate_left
 .have ag:(s1.err==0)=false:=by simpa using q1
  rw[if_neg q1]at hM
  rw[ag]at hr
  simp[go_sem]
  refine pR hr ?_
  simp[go_sem,rB,eo]
  exact zz2 (e:=zeroE) (s:=outF s1) hM
 have ag:(s1.err==0)=true:=by simpa using q1
 rw[if_pos q1]at hM
 rw[ag]at hr
 have hP:=aj (ak q1).2
 have af:=zr5 L hL s1 aa
 have ab:=yb9 L hL s1 aa wNOT
 unfold notK at hM
 unfold eatF at ab
 by_cases q:isT L wNOT s1=true
 .rw[if_pos q]at hM
  rw[if_pos q,q]at ab
  have al:=aa.next hL q
  have hy:=hP.ok 2 (zK s1) al ad
  have ae:=hP.not (zK s1) al ad
  generalize rec 2 (zK s1)=y at hy ae hM
  have ah:=op_w L y.2 (tokF L s1).place wNOT [y.1] sm (yz8 hy.wide) (fun he=>by
   have h1:=(hy.err he).2
   simp only[xZ]
   omega)
  have an:(opF (tokF L s1).place wNOT [y.1] y.2).2.opn=s1.opn:=by
   show(opS _ _ _ y.2).opn=_
   rw[zZ6,hy.opn];rfl
  generalize opF (tokF L s1).place wNOT [y.1] y.2=z at ah hM an
  have ai:IntKind.i64.wrap (z.2.opn - 1)=z.2.opn - 1:=by rw[an];exact eo
  simp only[As,Bx,GExpr.row_eq]at ah
  simp[go_sem]
  refine pR hr ?_
  simp[go_sem]
  refine pR af ?_
  simp[go_sem]
  refine pR ab ?_
  simp[go_sem]
  refine za4 ae cB rd_1 ?_
  simp[go_sem,GExpr.row_eq]
  refine za4 ah cB (wA ⟨zC rfl,zC rfl,zL,tV⟩) ?_
  simp[go_sem,rB,GExpr.row_eq,ai]
  exact xY (s:=outF z.2) hM
 .have q:isT L wNOT s1=false:=by simpa using q
  rw[if_neg (by rw[q];decide)]at hM
  rw[if_neg (by rw[q];decide),q]at ab
  have hy:=hP.ok 3 s1 aa ad
  have ae:=hP.cmp s1 aa ad
  generalize rec 3 s1=z at hy ae hM
  have ai:IntKind.i64.wrap (z.2.opn - 1)=z.2.opn - 1:=by rw[hy.opn];exact eo
  simp[go_sem]
  refine pR hr ?_
  simp[go_sem]
  refine pR af ?_
  simp[go_sem]
  refine pR ab ?_
  simp[go_sem]
  refine za4 ae cB rd_1 ?_
  simp[go_sem,rB,GExpr.row_eq,ai]
  exact xY (s:=outF z.2) hM
theorem xm8 (L:List GToken) (s:RS) (w:List UInt8) (ws:List (List UInt8)) (h:isT L w s=true):anyF L s (w::ws)=w:=by unfold anyF;rw[if_pos h]
theorem xd7 (L:List GToken) (s:RS) (w:List UInt8) (ws:List (List UInt8)) (h:isT L w s=false):anyF L s (w::ws)=anyF L s ws:=by unfold anyF;rw[if_neg (by rw[h];decide)];cases ws<;>rfl
theorem xk1: ∀w∈signsC,w≠ []:=dc
theorem xW8 (L:List GToken) (hL:LIn L) (rec:Nat->RS->PR) (s:RS) (hs:RIn L s) (h2:s.opn<=200) (ax:s.opn+1<=200->PW L rec (s.opn+1)):
  VCalls prog 364 [.ptr 0 0] [rB L s] (RR L (zf0 L (zg6 L rec 3) s)):=by
 have hr:=zN3 L hL s hs om
 have ah:=zk4 hs h2
 have ai:=zb7 (L:=L) s
 have ay:=zg3 (L:=L) (s:=s)
 have ho:=hs.opn
 have hM:zf0 L (zg6 L rec 3) s=if(yM L s).err=0 then((cmpJ L (rec 4) (rec 4 (yM L s))).1,outF (cmpJ L (rec 4) (rec 4 (yM L s))).2)else(zeroE,outF (yM L s)):=rfl
 generalize zf0 L (zg6 L rec 3) s=M at hM⊢
 generalize yM L s=s1 at hr ah ai ay hM
 have eo:=zD7 (o:=s1.opn) om om
 refine iV 1 func364 ntmps364 results364 fun c hc hb=> ?_
 by_cases q1:s1.err=0
 rotate_left
 .have av:(s1.err==0)=false:=by simpa using q1
  rw[if_neg q1]at hM
  rw[av]at hr
  refine zA ?_
  simp[go_sem]
  refine pR hr ?_
  simp[go_sem,rB,eo]
  exact zz2 (e:=zeroE) (s:=outF s1) hM
 have av:(s1.err==0)=true:=by simpa using q1
 rw[if_pos q1]at hM
 rw[av]at hr
 have hP:=ax (ay q1).2
 have hx:=hP.ok 4 s1 ah ai
 have ar:=hP.sum s1 ah ai
 generalize rec 4 s1=x at hx ar hM
 have aj:=zr5 L hL x.2 hx.rin
 have aa:=yb9 L hL x.2 hx.rin wIS
 have af:=hx.opn
 unfold cmpJ at hM
 unfold eatF at aa
 by_cases q:isT L wIS x.2=true
 .rw[if_pos q]at hM
  rw[if_pos q,q]at aa
  have ag:=hx.rin.next hL q
  have ab:=yb9 L hL (zK x.2) ag wNOT
  unfold eatF at ab
  by_cases q2:isT L wNOT (zK x.2)=true
  .rw[if_pos q2]at hM
   rw[if_pos q2,q2]at ab
   have a7:=ag.next hL q2
   have ak:=zd8 L hL _ a7 zr8
   have al:=zp2 (L:=L) zr8 (zK (zK x.2))
   have an:=zi7 (L:=L) (w:=zr8) (s:=zK (zK x.2))
   generalize zY L zr8 (zK (zK x.2))=u at ak al an hM
   have aw:u.opn=s1.opn:=by rw[al];exact af
   have ae:IntKind.i64.wrap (u.opn - 1)=u.opn - 1:=by rw[aw];exact eo
   have ad:=op_w L (outF u) (tokF L x.2).place zR3 [x.1] sm (yz8 hx.wide) (fun he=>by
    have h1:=(hx.err (an he).1).2
    simp only[xZ]
    omega)
   have ao:M=opF (tokF L x.2).place zR3 [x.1] (outF u):=by rw[hM];unfold opF;rw[xa3]
   clear hM
   generalize opF (tokF L x.2).place zR3 [x.1] (outF u)=z at ad ao
   simp only[As,Bx,GExpr.row_eq]at ad
   refine zA ?_
   simp[go_sem]
   refine pR hr ?_
   simp[go_sem]
   refine za4 ar cB rd_1 ?_
   simp[go_sem,GExpr.row_eq]
   refine pR aj ?_
   simp[go_sem]
   refine pR aa ?_
   simp[go_sem]
   refine pR ab ?_
   simp[go_sem]
   refine pR ak ?_
   simp[go_sem,rB,ae]
   refine za4 (s:=outF u) ad cB (wA ⟨zC rfl,zC rfl,zL,tV⟩) ?_
   simp[go_sem,GExpr.row_eq]
   exact xY ao
  .have q2:isT L wNOT (zK x.2)=false:=by simpa using q2
   rw[if_neg (by rw[q2];decide)]at hM
   rw[if_neg (by rw[q2];decide),q2]at ab
   have ak:=zd8 L hL _ ag zr8
   have al:=zp2 (L:=L) zr8 (zK x.2)
   have an:=zi7 (L:=L) (w:=zr8) (s:=zK x.2)
   generalize zY L zr8 (zK x.2)=u at ak al an hM
   have aw:u.opn=s1.opn:=by rw[al];exact af
   have ae:IntKind.i64.wrap (u.opn - 1)=u.opn - 1:=by rw[aw];exact eo
   have ad:=op_w L (outF u) (tokF L x.2).place ya6 [x.1] sm (yz8 hx.wide) (fun he=>by
    have h1:=(hx.err (an he).1).2
    simp only[xZ]
    omega)
   have ao:M=opF (tokF L x.2).place ya6 [x.1] (outF u):=by rw[hM];unfold opF;rw[xa3]
   clear hM
   generalize opF (tokF L x.2).place ya6 [x.1] (outF u)=z at ad ao
   simp only[As,Bx,GExpr.row_eq]at ad
   refine zA ?_
   simp[go_sem]
   refine pR hr ?_
   simp[go_sem]
   refine za4 ar cB rd_1 ?_
   simp[go_sem,GExpr.row_eq]
   refine pR aj ?_
   simp[go_sem]
   refine pR aa ?_
   simp[go_sem]
   refine pR ab ?_
   simp[go_sem]
   refine pR ak ?_
   simp[go_sem,rB,ae]
   refine za4 (s:=outF u) ad cB (wA ⟨zC rfl,zC rfl,zL,tV⟩) ?_
   simp[go_sem,GExpr.row_eq]
   exact xY ao
 have q:isT L wIS x.2=false:=by simpa using q
 rw[if_neg (by rw[q];decide)]at hM
 rw[if_neg (by rw[q];decide),q]at aa
 refine zA ?_
 simp[go_sem]
 refine pR hr ?_
 simp[go_sem]
 refine za4 ar cB rd_1 ?_
 simp[go_sem,GExpr.row_eq]
 refine pR aj ?_
 simp[go_sem]
 refine pR aa ?_
 simp[go_sem]
 refine zI (S:=Nat) [0,2,3,4,5,7] (fun i=> [.ptr 0 0,.ptr 1 0,.ptr 2 0,.int .i64 (tokF L x.2).place,.sl .ro (signsC.map fun w=> [V.str w]),.int .i64 (i:Int)]) (fun _=> [rB L x.2,zB,.box x.1.row]) (fun i=>6 - i) (fun i=>i<=6/\anyF L x.2 (signsC.drop i)=anyF L x.2 signsC) hc hb 0 ⟨A7 _,rfl⟩ ?_ ?_
 .exact at_n 3 (by simp[go_sem,zB,GExpr.row_eq]) rfl (by simp[rB,zB,ltOb,ltC,ltK,GExpr.row_eq]) dc ⟨zp6 (by rfl),zp6 (by rfl),zp6 (by rfl),zC rfl,zL,zC rfl,tV⟩
 rintro i ⟨hi,hinv⟩
 by_cases qi:i<6
 rotate_left
 .obtain rfl:i=6:=om
  have ha:anyF L x.2 signsC= []:=by rw[<-hinv];rfl
  rw[if_pos ha]at hM
  have ae:IntKind.i64.wrap (x.2.opn - 1)=x.2.opn - 1:=by rw[af];exact eo
  refine zA ?_
  simp[go_sem,signsC,rB,ae,GExpr.row_eq]
  exact xY (s:=outF x.2) hM
 have aq:i<signsC.length:=qi
 obtain⟨w,hw⟩:=eX (signsC[i])
 have a8:w∈signsC:=hw▸Ac aq
 have aA:=xk1 w a8
 rw[Aa aq,hw]at hinv
 have aa:=yb9 L hL x.2 hx.rin w
 unfold eatF at aa
 have az:decide ((i:Int)<6)=true:=decide_eq_true om
 have ei:=zS qi dc
 have au:(signsC.length:Int)=6:=rfl
 by_cases qw:isT L w x.2=true
 rotate_left
 .have qw:isT L w x.2=false:=by simpa using qw
  rw[xd7 L x.2 w _ qw]at hinv
  rw[if_neg (by rw[qw];decide),qw]at aa
  refine zA ?_
  simp[go_sem,au,az,aq,hw]
  refine zG om ?_
  simp[go_sem]
  refine pR aa ?_
  simp[go_sem,ei]
  refine zH (i+1) ⟨om,⟨om,hinv⟩, ?_⟩
  exact at_n 3 (by simp[go_sem,rB,zB,GExpr.row_eq]) rfl (by simp[rB,zB,ltOb,ltC,ltK,GExpr.row_eq]) dc (zF sg rfl)
 rw[xm8 L x.2 w _ qw]at hinv
 rw[if_neg (by rw[<-hinv];exact aA),<-hinv]at hM
 rw[if_pos qw,qw]at aa
 have ag:=hx.rin.next hL qw
 have hy:=hP.ok 4 (zK x.2) ag (by show x.2.opn=_;rw[af,ai])
 have a1:=hP.sum (zK x.2) ag (by show x.2.opn=_;rw[af,ai])
 generalize rec 4 (zK x.2)=y at hy a1 hM
 have ad:=op_w L y.2 (tokF L x.2).place w [x.1,y.1] sm (xV5 hx.wide hy.wide) (fun he=>by
   have h1:=(hy.err he).2
   have h2:=(hx.err (hy.err he).1).2
   simp only[xZ]
   omega)
 have a6:(opF (tokF L x.2).place w [x.1,y.1] y.2).2.opn=s1.opn:=by
  show(opS _ _ _ y.2).opn=_
  rw[zZ6,hy.opn];exact af
 generalize opF (tokF L x.2).place w [x.1,y.1] y.2=z at ad hM a6
 have ae:IntKind.i64.wrap (z.2.opn - 1)=z.2.opn - 1:=by rw[a6];exact eo
 simp only[As,Bx,GExpr.row_eq]at ad
 refine zA ?_
 simp[go_sem,au,az,aq,hw]
 refine zG om ?_
 simp[go_sem]
 refine pR aa ?_
 simp[go_sem]
 refine za7 [(8,3),(10,3)] 1 3 sm kR kR ?_
 simp[go_sem,aq,hw]
 refine zs4 a1 cB rd_1 ?_
 simp[go_sem,GExpr.row_eq]
 refine zs4 ad cB (wA ⟨zC rfl,zC rfl,zL,tV⟩) ?_
 simp[go_sem,rB,GExpr.row_eq,ae]
 exact xY (s:=outF z.2) hM
theorem zQ8 (v:GValue):Pure prog 375 [.agg v.row] (.agg (valE v).row):=by
 refine iW 0 func375 ntmps375 results375 fun c hc hb=>zJ ?_
 simp[go_sem]
 exact wW (r:= .agg [.int .i64 1,.str [],.int .i64 v.kind,.int .i64 v.n,.str v.s,.sl .ro []]) (zu7 ⟨zU rfl,zU rfl,zU rfl,zU rfl,zU rfl,yS,tV⟩) ⟨rfl,rfl⟩
theorem xD (L:List GToken) (hL:LIn L) (s:RS) (hs:RIn L s) (w:List UInt8) (h:isT L w s=true):VCalls prog 74 [.ptr 0 0,.str w] [rB L s] (fun r σ=>r= .bool true/\σ= [rB L (zK s)]):=by
 have:=yb9 L hL s hs w
 unfold eatF at this
 rw[if_pos h,h]at this
 exact this
theorem wK (L:List GToken) (hL:LIn L) (s:RS) (hs:RIn L s) (w:List UInt8) (h:isT L w s=false):VCalls prog 74 [.ptr 0 0,.str w] [rB L s] (fun r σ=>r= .bool false/\σ= [rB L s]):=by
 have:=yb9 L hL s hs w
 unfold eatF at this
 rw[if_neg (by rw[h];decide),h]at this
 exact this
theorem xP5 (L:List GToken) (hL:LIn L) (rec:Nat->RS->PR) (s:RS) (hs:RIn L s) (hP:PW L rec s.opn)
  (hex: ∀s',RIn L s'->s'.opn=s.opn->VCalls prog 210 [.ptr 0 0] [rB L s'] (RR L (rec 0 s'))):
  VCalls prog 374 [.ptr 0 0] [rB L s] (RR L (zF9 L (rec 6) (rec 0) s)):=by
 generalize hM:zF9 L (rec 6) (rec 0) s=M
 unfold zF9 at hM
 have ab:=zr5 L hL s hs
 have an:=hs.at_
 have hl:=hL.len
 have ei:IntKind.i64.wrap ((s.at_:Int)+1)=((s.at_+1:Nat):Int):=by rw[i64_id om om];omega
 have ag:=zM7 L hL s hs
 refine iW 1 func374 ntmps374 results374 fun c hc hb=>zJ ?_
 by_cases q1:isT L [45] s=true
 .rw[if_pos q1]at hM
  have ak:=xD L hL s hs _ q1
  have ad:=hs.next hL q1
  have hy:=hP.ok 6 (zK s) ad rfl
  have ae:=hP.unary (zK s) ad rfl
  generalize rec 6 (zK s)=y at hy ae hM
  have ah:=op_w L y.2 (tokF L s).place [78,69,71] [y.1] sm (yz8 hy.wide) (fun he=>by
   have h1:=(hy.err he).2
   simp only[xZ]
   omega)
  generalize opF (tokF L s).place [78,69,71] [y.1] y.2=z at ah hM
  simp only[As,Bx,GExpr.row_eq]at ah
  simp[go_sem]
  refine pR ab ?_
  simp[go_sem]
  refine pR ak ?_
  simp[go_sem]
  refine za7 [(4,3),(6,3)] 1 3 sm kR kR ?_
  simp[go_sem]
  refine zs4 ae cB rd_1 ?_
  simp[go_sem,GExpr.row_eq]
  refine zs4 ah cB (wA ⟨zC rfl,zC rfl,zL,tV⟩) ?_
  simp[go_sem,GExpr.row_eq]
  exact xY hM.symm
 have q1:isT L [45] s=false:=by simpa using q1
 rw[if_neg (by rw[q1];decide)]at hM
 have af:=wK L hL s hs _ q1
 by_cases q2:isT L [40] s=true
 .rw[if_pos q2]at hM
  have aa:=xD L hL s hs _ q2
  have ad:=hs.next hL q2
  have hy:=hP.ok 0 (zK s) ad rfl
  have ae:=hex (zK s) ad rfl
  generalize rec 0 (zK s)=y at hy ae hM
  have al:=zd8 L hL y.2 hy.rin [41]
  generalize zY L [41] y.2=u at al hM
  simp[go_sem]
  refine pR ab ?_
  simp[go_sem]
  refine pR af ?_
  simp[go_sem]
  refine pR aa ?_
  simp[go_sem]
  refine za4 ae cB rd_1 ?_
  simp[go_sem,GExpr.row_eq]
  refine pR al ?_
  simp[go_sem]
  exact xY hM.symm
 have q2:isT L [40] s=false:=by simpa using q2
 rw[if_neg (by rw[q2];decide)]at hM
 have aa:=wK L hL s hs _ q2
 simp[go_sem]
 refine pR ab ?_
 simp[go_sem]
 refine pR af ?_
 simp[go_sem]
 refine pR aa ?_
 simp[go_sem]
 by_cases q3:isT L [84,82,85,69] s=true
 .rw[if_pos q3]at hM
  have hv:=zQ8 ⟨1,1,[]⟩
  simp only[GExpr.row_eq,GValue.row]at hv
  refine pR (xD L hL s hs _ q3) ?_
  simp[go_sem]
  refine pC hv ?_
  simp[go_sem]
  exact xY (e:=valE ⟨1,1,[]⟩) (s:=zK s) hM.symm
 have q3:isT L [84,82,85,69] s=false:=by simpa using q3
 rw[if_neg (by rw[q3];decide)]at hM
 refine pR (wK L hL s hs _ q3) ?_
 simp[go_sem]
 by_cases q4:isT L [70,65,76,83,69] s=true
 .rw[if_pos q4]at hM
  have hv:=zQ8 ⟨1,0,[]⟩
  simp only[GExpr.row_eq,GValue.row]at hv
  refine pR (xD L hL s hs _ q4) ?_
  simp[go_sem]
  refine pC hv ?_
  simp[go_sem]
  exact xY (e:=valE ⟨1,0,[]⟩) (s:=zK s) hM.symm
 have q4:isT L [70,65,76,83,69] s=false:=by simpa using q4
 rw[if_neg (by rw[q4];decide)]at hM
 refine pR (wK L hL s hs _ q4) ?_
 simp[go_sem]
 by_cases q5:isT L zr8 s=true
 .rw[if_pos q5]at hM
  have hv:=zQ8 ⟨0,0,[]⟩
  simp only[GExpr.row_eq,GValue.row]at hv
  refine pR (xD L hL s hs _ q5) ?_
  simp[go_sem]
  refine pC hv ?_
  simp[go_sem]
  exact xY (e:=valE ⟨0,0,[]⟩) (s:=zK s) hM.symm
 have q5:isT L zr8 s=false:=by simpa using q5
 rw[if_neg (by rw[q5];decide)]at hM
 refine pR (wK L hL s hs _ q5) ?_
 simp[go_sem]
 obtain⟨t,ht⟩:=eX (tokF L s)
 rw[ht]at hM
 rw[ht]
 by_cases q6:t.kind=2
 .rw[if_pos q6]at hM
  have hv:=zQ8 ⟨2,t.n,[]⟩
  simp only[GExpr.row_eq,GValue.row]at hv
  have ai:(t.kind==2)=true:=by simpa using q6
  simp[go_sem,ai,rB,ei]
  refine pC hv ?_
  simp[go_sem]
  exact xY (e:=valE ⟨2,t.n,[]⟩) (s:=zK s) hM.symm
 rw[if_neg q6]at hM
 have ai:(t.kind==2)=false:=by simpa using q6
 simp[go_sem,ai]
 by_cases q7:t.kind=3
 .rw[if_pos q7]at hM
  have hv:=zQ8 ⟨3,0,t.s⟩
  simp only[GExpr.row_eq,GValue.row]at hv
  have aj:(t.kind==3)=true:=by simpa using q7
  simp[go_sem,aj,rB,ei]
  refine pC hv ?_
  simp[go_sem]
  exact xY (e:=valE ⟨3,0,t.s⟩) (s:=zK s) hM.symm
 rw[if_neg q7]at hM
 have aj:(t.kind==3)=false:=by simpa using q7
 simp[go_sem,aj]
 refine pR ag ?_
 simp[go_sem]
 exact zz2 (e:=namE (yR L s).1) (s:=(yR L s).2) hM.symm
theorem xK6 (L:List GToken) (hL:LIn L) (rec:Nat->RS->PR) (s:RS) (hs:RIn L s) (h2:s.opn<=200) (af:s.opn+1<=200->PW L rec (s.opn+1))
  (hex:s.opn+1<=200-> ∀s',RIn L s'->s'.opn=s.opn+1->VCalls prog 210 [.ptr 0 0] [rB L s'] (RR L (rec 0 s'))):
  VCalls prog 373 [.ptr 0 0] [rB L s] (RR L (zf0 L (zg6 L rec 6) s)):=by
 have hr:=zN3 L hL s hs om
 have aa:=zk4 hs h2
 have ad:=zb7 (L:=L) s
 have ag:=zg3 (L:=L) (s:=s)
 have ho:=hs.opn
 have hM:zf0 L (zg6 L rec 6) s=if(yM L s).err=0 then((zF9 L (rec 6) (rec 0) (yM L s)).1,outF (zF9 L (rec 6) (rec 0) (yM L s)).2)else(zeroE,outF (yM L s)):=rfl
 generalize zf0 L (zg6 L rec 6) s=M at hM⊢
 generalize yM L s=s1 at hr aa ad ag hM
 have eo:=zD7 (o:=s1.opn) om om
 refine iW 1 func373 ntmps373 results373 fun c hc hb=>zJ ?_
 by_cases q1:s1.err=0
 rotate_left
 .have ae:(s1.err==0)=false:=by simpa using q1
  rw[if_neg q1]at hM
  rw[ae]at hr
  simp[go_sem]
  refine pR hr ?_
  simp[go_sem,rB,eo]
  exact zz2 (e:=zeroE) (s:=outF s1) hM
 have ae:(s1.err==0)=true:=by simpa using q1
 rw[if_pos q1]at hM
 rw[ae]at hr
 have ab:=(ag q1).2
 have hP:PW L rec s1.opn:=by rw[ad];exact af ab
 have hok:=yB2 hL (hP.ok 6) (hP.ok 0) s1 aa rfl
 have ah:=xP5 L hL rec s1 aa hP (fun s' h1 h2=>hex ab s' h1 (by rw[h2,ad]))
 generalize zF9 L (rec 6) (rec 0) s1=z at hok ah hM
 have ai:IntKind.i64.wrap (z.2.opn - 1)=z.2.opn - 1:=by rw[hok.opn];exact eo
 simp[go_sem]
 refine pR hr ?_
 simp[go_sem]
 refine za4 ah cB rd_1 ?_
 simp[go_sem,rB,GExpr.row_eq,ai]
 exact xY (s:=outF z.2) hM
theorem yW9 (L:List GToken) (s:RS) (x:PR) (aa:VCalls prog 267 [.ptr 0 0,.int .i64 0] [rB L s] (RR L x)):VCalls prog 210 [.ptr 0 0] [rB L s] (RR L x):=by
 refine iW 1 func210 ntmps210 results210 fun c hc hb=>zJ ?_
 simp[go_sem]
 refine za4 aa cB (wA ⟨zC rfl,tV⟩) ?_
 simp[go_sem,GExpr.row_eq]
 exact xY rfl
theorem xb8 (L:List GToken) (hL:LIn L): ∀(f:Nat) (o:Int),o<=200->201<=(f:Int)+o->PW L (pF L f) o
 |0,o,h,hf=>by omega
 |f+1,o,h,hf=>by
  have ih: ∀s:RS,s.opn=o->s.opn+1<=200->PW L (pF L f) (s.opn+1):=fun s hs h1=>xb8 L hL f (s.opn+1) h1 (by push_cast at hf;omega)
  have aa: ∀s:RS,s.opn=o->s.opn+1<=200-> ∀s',RIn L s'->s'.opn=s.opn+1->VCalls prog 210 [.ptr 0 0] [rB L s'] (RR L (pF L f 0 s')):=fun s hs h1 s' h2 h3=>yW9 L s' _ ((ih s hs h1).chain 0 (A7 _) s' h2 h3)
  refine⟨fun w s hs ho=>xa6 hL (f+1) w s hs om (by push_cast at hf⊢;omega),fun k hk s hs ho=> ?_,fun s hs ho=> ?_,fun s hs ho=> ?_,fun s hs ho=> ?_,fun s hs ho=> ?_,fun s hs ho=> ?_⟩
  .have hk:k=0∨k=1:=om
   rcases hk with rfl|rfl
   .exact xo1 L hL (pF L f) s hs om (ih s ho)
   .exact xo2 L hL (pF L f) s hs om (ih s ho)
  .exact xX7 L hL (pF L f) s hs om (ih s ho)
  .exact xW8 L hL (pF L f) s hs om (ih s ho)
  .exact xY5 L hL (pF L f) s hs om (ih s ho)
  .exact xT7 L hL (pF L f) s hs om (ih s ho)
  .exact xK6 L hL (pF L f) s hs om (ih s ho) (aa s ho)
def exF (L:List GToken) (s:RS):PR:=pF L 201 0 s
theorem xr3 {L:List GToken} (hL:LIn L) {s:RS} (hs:RIn L s) (ho:s.opn=0):PI L s (exF L s):=xa6 hL 201 0 s hs om om
theorem ex_w (L:List GToken) (hL:LIn L) (s:RS) (hs:RIn L s) (ho:s.opn=0):VCalls prog 210 [.ptr 0 0] [rB L s] (RR L (exF L s)):=
 yW9 L s _ ((xb8 L hL 201 0 dc dc).chain 0 (A7 _) s hs ho)
mutual
def zn9:GExpr->Nat
 | .mk _ _ _ args=>zj4 args+1
def zj4:List GExpr->Nat
 | []=>0
 |e::l=>zn9 e+zj4 l
end
variable {e:GExpr}{w:List UInt8}{o:Int}{n:Int}{τ:St}
theorem zH9 (e:GExpr):zn9 e=zj4 e.args+1:=by cases e;rw[zn9];rfl
inductive Good:GExpr->Prop
 |mk (e:GExpr) (hk:i64R e.kind) (hs:e.s.length<=1048576) (hv:e.v.ok) (hn:e.v.s.length<=1048576) (ha: ∀x∈e.args,Good x):Good e
theorem Good.str (h:Good e):e.s.length<=1048576:=by cases h;assumption
theorem Good.v (h:Good e):e.v.ok:=by cases h;assumption
theorem Good.sub (h:Good e): ∀x∈e.args,Good x:=by cases h;assumption
theorem yw6:(⟨0,0,[]⟩:GValue).ok:=⟨dc,dc,dc⟩
theorem xG1 (h:0<=n/\n<=9223372036854775807):(⟨2,n,[]⟩:GValue).ok:=⟨by simp only;omega,by simp only;omega,A7 _⟩
theorem xK5 {s:List UInt8} (h:s.length<=1048576):(⟨3,0,s⟩:GValue).ok:=⟨by simp only;omega,by simp only;omega,by simp only[maxLen];omega⟩
theorem xF4 {a:List GExpr} (h:w.length<=1048576) (ha: ∀x∈a,Good x):Good (opE w a):= .mk _ (by show i64R 3;unfold i64R;decide) h yw6 (A7 _) ha
theorem zG8 {v:GValue} (h:v.ok) (h2:v.s.length<=1048576):Good (valE v):= .mk _ (by show i64R 1;unfold i64R;decide) (A7 _) h h2 (fun x hx=>by cases hx)
theorem xs7 (h:w.length<=1048576):Good (namE w):= .mk _ (by show i64R 2;unfold i64R;decide) h yw6 (A7 _) (fun x hx=>by cases hx)
theorem xs5:Good zeroE:= .mk _ (by show i64R 0;unfold i64R;decide) (A7 _) yw6 (A7 _) (fun x hx=>by cases hx)
theorem yv2 {x:GExpr} (h:Good x): ∀e∈ [x],Good e:=fun e he=>by
 simp only[Ak,Bf,or_false]at he
 subst he
 exact h
theorem xs6 {x y:GExpr} (h:Good x) (h2:Good y): ∀e∈ [x,y],Good e:=fun e he=>by
 simp only[Ak,Bf,or_false]at he
 rcases he with rfl|rfl
 .exact h
 .exact h2
structure LGood (L:List GToken):Prop where
 txt: ∀t∈L,t.s.length<=1048576
 num: ∀t∈L,0<=t.n/\t.n<=9223372036854775807
variable {L:List GToken}
theorem zB5 {s:RS} (hs:RIn L s):tokF L s∈L:=by
 unfold tokF
 rw[A9,A4 hs.at_]
 exact Ac _
theorem yX8 (hG:LGood L) {s:RS} (hs:RIn L s) (h:isT L w s=true):w.length<=1048576:=by
 have:=hG.txt _ (zB5 hs)
 unfold isT at h
 simp only[A8,beq_iff_eq]at h
 rw[<-h.2.2]
 exact this
theorem zi8 (hG:LGood L) {s:RS} (hs:RIn L s):(yR L s).1.length<=1048576:=by
 unfold yR
 split
 .exact hG.txt _ (zB5 hs)
 .exact A7 _
structure PJ (s:RS) (x:PR):Prop where
 good:Good x.1
 size:x.2.err=0->zn9 x.1+s.at_<=x.2.at_
abbrev PK (L:List GToken) (s:RS) (x:PR):Prop:=PI L s x/\PJ s x
theorem xJ3 (w:List UInt8) (a:List GExpr):zn9 (opE w a)=zj4 a+1:=zH9 _
theorem yy3 (x:GExpr):zj4 [x]=zn9 x:=by simp[zj4]
theorem xy4 (x y:GExpr):zj4 [x,y]=zn9 x+zn9 y:=by simp[zj4]
theorem yr0 (h:e.args= []):zn9 e=1:=by rw[zH9,h];rfl
theorem ym2 {s0 s:RS} (p:Int) {a:List GExpr} (h1:w.length<=1048576) (h2: ∀x∈a,Good x) (h3:s.err=0->zj4 a+1+s0.at_<=s.at_):PJ s0 (opF p w a s):=
 ⟨xF4 h1 h2,fun he=>by
  have h:=yx1 (p:=p) (w:=w) (a:=a) (s:=s) he
  show zn9 (opE w a)+s0.at_<=(opS p w a s).at_
  rw[zM8,xJ3]
  exact h3 h.1⟩
theorem yf6 (hL:LIn L) (hG:LGood L) {o:Int} {sub:RS->PR} (ab: ∀s,RIn L s->s.opn=o->PK L s (sub s)) (ws:List (List UInt8)) {s0:RS}: ∀(n:Nat) (x:PR),PK L s0 x->s0.opn=o->PJ s0 (opsF L ws sub n x)
 |0,x,h,_=>h.2
 |n+1,x,h,ho=>by
  have aa:=zK2 hL (fun s h1 h2=>(ab s h1 h2).1) ws 1 x h.1 ho
  unfold opsF
  unfold opsF at aa
  split
  .exact h.2
  rename_i ad
  rw[if_neg ad]at aa
  have hi:=zC3 ad
  have hx:=h.1.opn
  have hy:=ab (zK x.2) (h.1.rin.next hL hi) (by show x.2.opn=o;rw[hx,ho])
  have hl:=yX8 hG h.1.rin hi
  have aa:PI L s0 (opF (tokF L x.2).place (anyF L x.2 ws) [x.1,(sub (zK x.2)).1] (sub (zK x.2)).2):=aa
  refine yf6 hL hG ab ws n _ ⟨aa,ym2 _ hl (xs6 h.2.good hy.2.good) (fun he=> ?_)⟩ ho
  have h1:=hy.2.size he
  have h2:=h.2.size (hy.1.err he).1
  rw[zb1]at h1
  rw[xy4]
  omega
theorem xS5 (hL:LIn L) (_hG:LGood L) {rn rc:RS->PR} (h1: ∀s,RIn L s->s.opn=o->PK L s (rn s)) (h2: ∀s,RIn L s->s.opn=o->PK L s (rc s)) (s:RS) (hs:RIn L s) (ho:s.opn=o):PJ s (notK L rn rc s):=by
 unfold notK
 split
 .rename_i hi
  have hy:=h1 (zK s) (hs.next hL hi) ho
  refine ym2 _ dc (yv2 hy.2.good) (fun he=> ?_)
  have h:=hy.2.size he
  rw[zb1]at h
  rw[yy3]
  omega
 .exact(h2 s hs ho).2
theorem xQ1 (hL:LIn L) (hG:LGood L) {sub:RS->PR} (aa: ∀s,RIn L s->s.opn=o->PK L s (sub s)) (s:RS) (ho:s.opn=o) (x:PR) (h:PK L s x):PJ s (cmpJ L sub x):=by
 have hx:=h.1.opn
 unfold cmpJ
 split
 .rename_i hi
  split
  .rename_i ad
   refine ym2 _ dc (yv2 h.2.good) (fun he=> ?_)
   have h1:=h.2.size (zi7 he).1
   have h2:=zv9 (L:=L) zr8 (zK (zK x.2))
   simp only[zb1]at h2
   rw[yy3]
   omega
  .refine ym2 _ dc (yv2 h.2.good) (fun he=> ?_)
   have h1:=h.2.size (zi7 he).1
   have h2:=zv9 (L:=L) zr8 (zK x.2)
   simp only[zb1]at h2
   rw[yy3]
   omega
 .split
  .exact h.2
  rename_i ab
  have hi:=zC3 ab
  have hy:=aa (zK x.2) (h.1.rin.next hL hi) (by show x.2.opn=o;rw[hx,ho])
  have hl:=yX8 hG h.1.rin hi
  refine ym2 _ hl (xs6 h.2.good hy.2.good) (fun he=> ?_)
  have h1:=hy.2.size he
  have h2:=h.2.size (hy.1.err he).1
  rw[zb1]at h1
  rw[xy4]
  omega
theorem zI8 {s s2:RS} (ha:e.args= []) (h:Good e) (h2:s2.err=0->s2.at_=s.at_+1):PJ s (e,s2):=⟨h,fun he=>by
 have:=h2 he
 simp only[yr0 ha]
 omega⟩
theorem xD6 (hL:LIn L) (hG:LGood L) {un ex:RS->PR} (h1: ∀s,RIn L s->s.opn=o->PK L s (un s)) (h2: ∀s,RIn L s->s.opn=o->PK L s (ex s)) (s:RS) (hs:RIn L s) (ho:s.opn=o):PJ s (zF9 L un ex s):=by
 have hm:=zB5 hs
 unfold zF9
 split
 .rename_i hi
  have hy:=h1 (zK s) (hs.next hL hi) ho
  refine ym2 _ dc (yv2 hy.2.good) (fun he=> ?_)
  have h:=hy.2.size he
  rw[zb1]at h
  rw[yy3]
  omega
 split
 .rename_i hi
  have hy:=h2 (zK s) (hs.next hL hi) ho
  refine⟨hy.2.good,fun he=> ?_⟩
  have h:=hy.2.size (zi7 he).1
  have h3:=zv9 (L:=L) [41] (ex (zK s)).2
  rw[zb1]at h
  show zn9 (ex (zK s)).1+s.at_<=(zY L [41] (ex (zK s)).2).at_
  omega
 split
 .exact zI8 rfl (zG8 ⟨dc,dc,dc⟩ (A7 _)) (fun _=>rfl)
 split
 .exact zI8 rfl (zG8 ⟨dc,dc,dc⟩ (A7 _)) (fun _=>rfl)
 split
 .exact zI8 rfl (zG8 yw6 (A7 _)) (fun _=>rfl)
 split
 .exact zI8 rfl (zG8 (xG1 (hG.num _ hm)) (A7 _)) (fun _=>rfl)
 split
 .exact zI8 rfl (zG8 (xK5 (hG.txt _ hm)) (hG.txt _ hm)) (fun _=>rfl)
 .refine zI8 rfl (xs7 (zi8 hG hs)) (fun he=> ?_)
  have hb:=(zT8 he).2
  unfold yR
  rw[if_pos hb]
  rfl
theorem xD7 (hL:LIn L) (hG:LGood L) {rec:Nat->RS->PR} (h: ∀w s,RIn L s->s.opn=o->PK L s (rec w s)): ∀(w:Nat) (s:RS),RIn L s->s.opn=o->PJ s (zg6 L rec w s)
 |0,s,hs,ho=>yf6 hL hG (h 1) _ _ _ (h 1 s hs ho) ho
 |1,s,hs,ho=>yf6 hL hG (h 2) _ _ _ (h 2 s hs ho) ho
 |2,s,hs,ho=>xS5 hL hG (h 2) (h 3) s hs ho
 |3,s,hs,ho=>xQ1 hL hG (h 4) s ho _ (h 4 s hs ho)
 |4,s,hs,ho=>yf6 hL hG (h 5) _ _ _ (h 5 s hs ho) ho
 |5,s,hs,ho=>yf6 hL hG (h 6) _ _ _ (h 6 s hs ho) ho
 |_w+6,s,hs,ho=>xD6 hL hG (h 6) (h 0) s hs ho
theorem xI9 {k:RS->PR} (s:RS) (hk:(yM L s).err=0->PJ (yM L s) (k (yM L s))):PJ s (zf0 L k s):=by
 unfold zf0
 split
 .rename_i he
  have hy:=hk he
  refine⟨hy.good,fun h=> ?_⟩
  have h2:=hy.size h
  rw[zQ1]at h2
  exact h2
 .rename_i he
  exact⟨xs5,fun h=>absurd h he⟩
theorem pF_j (hL:LIn L) (hG:LGood L): ∀(f:Nat) (w:Nat) (s:RS),RIn L s->s.opn<=200->201<=(f:Int)+s.opn->PJ s (pF L f w s)
 |0,w,s,hs,h2,hf=>by omega
 |f+1,w,s,hs,h2,hf=>by
  unfold pF
  refine xI9 s (fun he=> ?_)
  have h3:=(zg3 he).2
  exact xD7 hL hG (o:=s.opn+1) (fun w t ht ho=>⟨xa6 hL f w t ht om (by push_cast at hf;omega),pF_j hL hG f w t ht om (by push_cast at hf;omega)⟩) w _ (zk4 hs h2) (zb7 s)
theorem ex_j {L:List GToken} (hL:LIn L) (hG:LGood L) {s:RS} (hs:RIn L s) (ho:s.opn=0):PJ s (exF L s):=pF_j hL hG 201 0 s hs om om
structure UI (L:List GToken) (s s':RS):Prop where
 rin:RIn L s'
 opn:s'.opn=s.opn
 up:s.at_<=s'.at_
 err:s'.err=0->s.err=0
variable {L:List GToken}
theorem UI.refl {s:RS} (h:RIn L s):UI L s s:=⟨h,rfl,A6 _,id⟩
theorem UI.trans {s s2 s3:RS} (h:UI L s s2) (k:UI L s2 s3):UI L s s3:=⟨k.rin,k.opn.trans h.opn,B2 h.up k.up,fun e=>h.err (k.err e)⟩
theorem PI.ui {s:RS} {x:PR} (h:PI L s x):UI L s x.2:=⟨h.rin,h.opn,h.up,fun e=>(h.err e).1⟩
theorem yA (hL:LIn L) (w:List UInt8) {s:RS} (h:RIn L s):UI L s (zY L w s):=⟨zk2 hL h,zp2 w s,zv9 w s,fun e=>(zi7 e).1⟩
theorem zd1 (hL:LIn L) {s:RS} (h:RIn L s):UI L s (yR L s).2:=⟨yH1 hL h,yp6 s,yH2 s,fun e=>(zT8 e).1⟩
theorem yP (hL:LIn L) {s:RS} (h:RIn L s) (hi:isT L w s=true):UI L s (zK s):=⟨h.next hL hi,rfl,by simp[zK],id⟩
theorem yX0 (e p:Int) {s:RS} (h:RIn L s) (he:e≠0):UI L s (za5 e p s):=⟨yc6 h e p,zA4 e p s,by rw[zG5];exact A6 _,fun q=>absurd q (zm6 he)⟩
theorem yQ3 (hL:LIn L) {s:RS} (h:RIn L s):UI L s (numF L s).2:=by
 unfold numF
 split
 .rename_i hb
  unfold numB at hb
  simp only[A8,beq_iff_eq]at hb
  exact⟨hL.next h (by rw[hb.2];decide),rfl,by simp[zK],id⟩
 .exact yX0 _ _ h dc
def zf7 (L:List GToken) (n most:Int) (b:Bool) (s:RS):RS:=if s.err=0/\most<=n then za5 (if b=true then 3 else 13) (tokF L s).place s else s
theorem zn7 {most:Int} {b:Bool} {s:RS} (h:RIn L s):UI L s (zf7 L n most b s):=by
 unfold zf7
 split
 .exact yX0 _ _ h (by split<;>decide)
 .exact UI.refl h
theorem zg1 {most:Int} {b:Bool} {s:RS} (h:(zf7 L n most b s).err=0):s.err=0/\n<most/\zf7 L n most b s=s:=by
 unfold zf7 at h⊢
 split at h
 .exact absurd h (zm6 (by split<;>decide))
 .rename_i hc
  rw[if_neg hc]
  refine⟨h, ?_,rfl⟩
  by_cases q:most<=n
  .exact absurd ⟨h,q⟩ hc
  .omega
theorem ye8 (L:List GToken) (hL:LIn L) (s:RS) (hs:RIn L s) (n most:Int) (b:Bool):VCalls prog 72 [.ptr 0 0,.int .i64 n,.int .i64 most,.bool b] [rB L s] (fun r σ=>r= .bool ((zf7 L n most b s).err==0)/\σ= [rB L (zf7 L n most b s)]):=by
 have ht:=zr5 L hL s hs
 have ae:=zG6 L s 3 (tokF L s).place
 have ad:=zG6 L s 13 (tokF L s).place
 have hM:zf7 L n most b s=if s.err=0/\most<=n then(if b=true then za5 3 (tokF L s).place s else za5 13 (tokF L s).place s)else s:=by unfold zf7;cases b<;>rfl
 generalize zf7 L n most b s=M at hM⊢
 have e3:(za5 3 (tokF L s).place s).err≠0:=zm6 dc
 have af:(za5 13 (tokF L s).place s).err≠0:=zm6 dc
 generalize za5 3 (tokF L s).place s=f3 at*
 generalize za5 13 (tokF L s).place s=f13 at*
 refine iW 1 func72 ntmps72 results72 fun c hc hb=>zJ ?_
 simp[go_sem,rB]
 by_cases q1:s.err=0
 rotate_left
 .have aa:(s.err==0)=false:=by simpa using q1
  rw[if_neg (fun h=>q1 h.1)]at hM
  simp[go_sem,aa]
  exact yY (L:=L) (s:=s) (zC rfl) ⟨by rw[hM,aa],by rw[hM];rfl⟩
 have aa:(s.err==0)=true:=by simpa using q1
 by_cases q2:most<=n
 rotate_left
 .have ab:decide (most<=n)=false:=decide_eq_false q2
  rw[if_neg (fun h=>q2 h.2)]at hM
  simp[go_sem,aa,ab]
  exact yY (L:=L) (s:=s) (zC rfl) ⟨by rw[hM,aa],by rw[hM];rfl⟩
 have ab:decide (most<=n)=true:=decide_eq_true q2
 rw[if_pos ⟨q1,q2⟩]at hM
 simp[go_sem,aa,ab]
 refine(Ab b).elim (fun q=> ?_) (fun q=> ?_)
 .rw[if_pos q]at hM
  have ag:(f3.err==0)=false:=by simpa using e3
  subst q
  simp[go_sem]
  refine pR ht ?_
  simp[go_sem]
  refine pR ae ?_
  simp[go_sem,rB]
  exact yY (L:=L) (s:=f3) (zC rfl) ⟨by rw[hM],by rw[hM];rfl⟩
 .rw[if_neg (by rw[q];decide)]at hM
  subst q
  simp[go_sem]
  refine pR ht ?_
  simp[go_sem]
  refine pR ad ?_
  simp[go_sem,rB]
  exact yY (L:=L) (s:=f13) (zC rfl) ⟨by rw[hM],by rw[hM];rfl⟩
def zU9:List UInt8:= [67,79,85,78,84]
def wSUM:List UInt8:= [83,85,77]
def yS4:List (List UInt8):= [[45],[40],[78,79,84],[84,82,85,69],[70,65,76,83,69],[78,85,76,76]]
def begF (L:List GToken) (item:Bool) (s:RS):Bool:=
 ((tokF L s).kind==2||((tokF L s).kind==3||((tokF L s).kind==1&&zl1 (tokF L s).s)))||((item&&(isT L zU9 s||isT L wSUM s))|| !(anyF L s yS4== []))
theorem yB3 (L:List GToken) (hL:LIn L) (s:RS) (hs:RIn L s) (item:Bool):VCalls prog 209 [.ptr 0 0,.bool item] [rB L s] (fun r σ=>r= .bool (begF L item s)/\σ= [rB L s]):=by
 have ht:=zr5 L hL s hs
 have h1:=is_w L hL s hs zU9
 have h2:=is_w L hL s hs wSUM
 have h3:=zV4 L hL s hs yS4 dc
 have ab:=hL.txt _ (zB5 hs)
 have hw:=zU1 (tokF L s).s ab
 generalize hM:begF L item s=M
 unfold begF at hM
 generalize isT L zU9 s=c1 at h1 hM
 generalize isT L wSUM s=c2 at h2 hM
 generalize anyF L s yS4=a at h3 hM
 generalize zl1 (tokF L s).s=b at hw hM
 have ad:(a != [])= !a.isEmpty:=by cases a<;>rfl
 have aa:(a== [])=a.isEmpty:=by cases a<;>rfl
 rw[aa]at hM
 have ret: ∀(r:Bool) (τ:St),r=M->wret (some (.bool r)) 1 (fun r σ=>r= .bool M/\σ= [rB L s]) (rB L s::τ):=fun r τ h=>by subst h;exact yY (zC rfl) ⟨rfl,rfl⟩
 refine iW 1 func209 ntmps209 results209 fun c hc hb=>zJ ?_
 simp[go_sem]
 refine pR ht ?_
 simp[go_sem]
 repeat' (first
  |(refine yW (fun q=> ?_) (fun q=> ?_)<;>simp[go_sem,q])
  |(refine zR (fun q=> ?_) (fun q=> ?_)<;>simp[go_sem,q])
  |(refine pC hw ?_;simp[go_sem])
  |(refine pR h1 ?_;simp[go_sem])
  |(refine pR h2 ?_;simp[go_sem])
  |(refine pR h3 ?_;simp[go_sem]))
 all_goals exact ret _ _ (by rw[<-hM];simp_all)
variable {L:List GToken}
def zN7:List UInt8:= [87,72,69,82,69]
def whS (L:List GToken) (s:RS):RS:=if isT L zN7 s=true then(exF L (zK s)).2 else s
def rowC (e:GExpr):List V:= [.int .i64 e.kind,.str e.s,.int .i64 e.v.kind,.int .i64 e.v.n,.str e.v.s,.sl .ro (e.args.map GExpr.row)]
def whB (L:List GToken) (s:RS) (a b:List V) (o:Ob):Ob:=if isT L zN7 s=true then .box (a++ [.bool true]++rowC (exF L (zK s)).1++b)else o
theorem zL0 (hL:LIn L) {s:RS} (h:RIn L s) (ho:s.opn=0):UI L s (exF L s).2:=(xr3 hL h ho).ui
theorem ys2 (hL:LIn L) {s:RS} (h:RIn L s) (ho:s.opn=0):UI L s (whS L s):=by
 unfold whS
 split
 .rename_i hi
  exact(yP hL h hi).trans (zL0 hL (h.next hL hi) ho)
 .exact UI.refl h
theorem xL5 (L:List GToken) (hL:LIn L) (s:RS) (hs:RIn L s) (ho:s.opn=0) (τ:St) (j:Nat) (c0 c1 c2 c3 c4 c5 c6 c7 c8 c9 af ag ab ad ae:V) (hj:τ[j]? =some (.box [c0,c1,c2,c3,c4,c5,c6,c7,c8,c9,af,ag,ab,ad,ae])):
  VCalls prog 139 [.ptr 0 0,.ptr (j+1) 0] (rB L s::τ) (fun r σ=>r= .tup []/\σ=rB L (whS L s)::τ.set j (whB L s [c0,c1,c2,c3,c4] [ab,ad,ae] (.box [c0,c1,c2,c3,c4,c5,c6,c7,c8,c9,af,ag,ab,ad,ae]))):=by
 have aj:=(A5.1 hj).1
 have ah:=(A5.1 hj).2
 unfold whS whB
 refine VCalls.intro (τ.length+1) func139 ntmps139 results139 rfl rfl (D1 rfl) fun c hc hb=>zJ ?_
 by_cases q:isT L zN7 s=true
 .rw[if_pos q,if_pos q]
  have aa:=xD L hL s hs _ q
  have ai:=ex_w L hL (zK s) (hs.next hL q) ho
  generalize exF L (zK s)=y at ai⊢
  simp[go_sem]
  refine pR aa ?_
  simp[go_sem]
  refine za4 ai cB rd_1 ?_
  simp[go_sem,GExpr.row_eq,ah,aj]
  refine yi4 ?_ ⟨rfl, ?_⟩
  .simp
  .simp[go_sem,rowC]
 .have q:isT L zN7 s=false:=by simpa using q
  have aa:=wK L hL s hs _ q
  rw[if_neg (by rw[q];decide),if_neg (by rw[q];decide)]
  simp[go_sem]
  refine pR aa ?_
  simp[go_sem]
  refine yi4 sm ⟨rfl, ?_⟩
  rw[<-ah,List.set_getElem_self]
def zv1 (L:List GToken) (s:RS):GItem×RS:=
 if isT L zU9 s=true then(⟨3,zeroE⟩,zY L [41] (zY L [42] (zY L [40] (zK s))))
 else if isT L wSUM s=true then(⟨4,(exF L (zY L [40] (zK s))).1⟩,zY L [41] (exF L (zY L [40] (zK s))).2)
 else(⟨2,(exF L s).1⟩,(exF L s).2)
def zv2 (L:List GToken):Nat->List GItem->RS->List GItem×RS
 |0,l,s=>(l,s)
 |n+1,l,s=>
  if(zf7 L l.length 6 (begF L true s) s).err=0 then
   (if isT L [44] (zv1 L s).2=true then zv2 L n (l++ [(zv1 L s).1]) (zK (zv1 L s).2)else(l++ [(zv1 L s).1],(zv1 L s).2))
  else(l,zf7 L l.length 6 (begF L true s) s)
def zp1 (L:List GToken) (s:RS):List GItem×RS:=if isT L [42] s=true then([⟨1,zeroE⟩],zK s)else zv2 L 7 [] s
theorem yw0 (hL:LIn L) {s:RS} (h:RIn L s) (ho:s.opn=0):UI L s (zv1 L s).2:=by
 unfold zv1
 split
 .rename_i hi
  have h1:=yP hL h hi
  have h2:=h1.trans (yA hL [40] h1.rin)
  have h3:=h2.trans (yA hL [42] h2.rin)
  exact h3.trans (yA hL [41] h3.rin)
 split
 .rename_i hi
  have h1:=yP hL h hi
  have h2:=h1.trans (yA hL [40] h1.rin)
  have h3:=h2.trans (zL0 hL h2.rin (h2.opn.trans ho))
  exact h3.trans (yA hL [41] h3.rin)
 .exact zL0 hL h ho
theorem xf9 {l:List GItem} {s:RS} {g:Tag} {M:List GItem×RS} (h:(l,s)=M):wret (some (.sl g (l.map GItem.row))) 1 (fun r σ=>r= .sl .ro (M.1.map GItem.row)/\σ= [rB L M.2]) (rB L s::τ):=by
 subst h
 exact yY zL ⟨rfl,rfl⟩
theorem xG3 (L:List GToken) (hL:LIn L) (s0:RS) (al:RIn L s0) (aw:s0.opn=0):VCalls prog 208 [.ptr 0 0] [rB L s0] (fun r σ=>r= .sl .ro ((zp1 L s0).1.map GItem.row)/\σ= [rB L (zp1 L s0).2]):=by
 generalize hM:zp1 L s0=M
 unfold zp1 at hM
 refine iV 1 func208 ntmps208 results208 fun c hc hb=> ?_
 refine zA ?_
 simp[go_sem]
 by_cases q0:isT L [42] s0=true
 .rw[if_pos q0]at hM
  refine pR (xD L hL s0 al _ q0) ?_
  simp[go_sem]
  refine yY (r:= .sl .ro ([(⟨1,zeroE⟩:GItem)].map GItem.row)) ?_ ⟨by rw[<-hM],by rw[<-hM]⟩
  exact zL
 have q0:isT L [42] s0=false:=by simpa using q0
 rw[if_neg (by rw[q0];decide)]at hM
 refine pR (wK L hL s0 al _ q0) ?_
 simp[go_sem]
 refine zo3 3 7 dc sg ?_
 refine zI (S:=List GItem×RS) [0,3] (fun u=> [.ptr 0 0,.sl (.app 1) (u.1.map GItem.row)]) (fun u=> [rB L u.2,.app u.1.length 7]) (fun u=>7 - u.1.length) (fun u=>u.1.length<=6/\UI L s0 u.2/\zv2 L (7 - u.1.length) u.1 u.2=M) hc hb ([],s0) ⟨A7 _,UI.refl al,hM⟩ ?_ ?_
 .exact aN 2 (by simp[rB,ltOb,ltC,ltK])
 rintro⟨l,s⟩ ⟨hl,hu,hinv⟩
 simp only at hl hu hinv
 have hs:=hu.rin
 have ho:=hu.opn.trans aw
 have ae:=yB3 L hL s hs true
 have ab:=ye8 L hL s hs l.length 6 (begF L true s)
 have an:=zg1 (L:=L) (n:=l.length) (most:=6) (b:=begF L true s) (s:=s)
 rw[show 7 - l.length=(6 - l.length)+1 by omega,zv2]at hinv
 generalize begF L true s=bg at ae ab an hinv
 generalize zf7 L l.length 6 bg s=m at ab an hinv
 by_cases q:m.err=0
 rotate_left
 .have q':(m.err==0)=false:=by simpa using q
  rw[if_neg q]at hinv
  rw[q']at ab
  refine zA ?_
  simp[go_sem]
  refine pR ae ?_
  simp[go_sem]
  refine pR ab ?_
  simp[go_sem]
  exact xf9 hinv
 have q':(m.err==0)=true:=by simpa using q
 obtain⟨he,ax,rfl⟩:=an q
 rw[if_pos q]at hinv
 rw[q']at ab
 have ak:=yw0 hL hs ho
 have ad:=hu.trans ak
 generalize hit:zv1 L m=it at hinv ak ad
 unfold zv1 at hit
 have aa: ∀b,isT L [44] it.2=b->VCalls prog 74 [.ptr 0 0,.str [44]] [rB L it.2] (fun r σ=>r= .bool b/\σ= [rB L (if b=true then zK it.2 else it.2)]):=fun b hb=>by
  cases b with
  |true=>exact xD L hL it.2 ad.rin _ hb
  |false=>exact wK L hL it.2 ad.rin _ hb
 by_cases q1:isT L zU9 m=true
 .rw[if_pos q1]at hit
  have ah:=hs.next hL q1
  have ai:=zd8 L hL _ ah [40]
  have af:=zk2 hL (w:= [40]) ah
  generalize zY L [40] (zK m)=u1 at ai af hit
  have ao:=zd8 L hL _ af [42]
  have aq:=zk2 hL (w:= [42]) af
  generalize zY L [42] u1=u2 at ao aq hit
  have aj:=zd8 L hL _ aq [41]
  generalize zY L [41] u2=u3 at aj hit
  subst hit
  simp only at hinv ad aa
  refine zA ?_
  simp[go_sem]
  refine pR ae ?_
  simp[go_sem]
  refine pR ab ?_
  simp[go_sem]
  refine pR (xD L hL m hs _ q1) ?_
  simp[go_sem]
  refine pR ai ?_
  simp[go_sem]
  refine pR ao ?_
  simp[go_sem]
  refine pR aj ?_
  simp[go_sem]
  refine zG ⟨om,zX rfl⟩ ?_
  simp[go_sem]
  refine(Ab (isT L [44] u3)).elim (fun q2=> ?_) (fun q2=> ?_)
  .rw[if_pos q2]at hinv
   refine pR (aa true q2) ?_
   simp[go_sem]
   refine zH (l++ [⟨3,zeroE⟩],zK u3) ⟨by simp;omega,⟨by simp;omega,ad.trans (yP hL ad.rin q2),by simp only[B0,Bk,show 7 - (l.length+1)=6 - l.length by omega];exact hinv⟩, ?_⟩
   exact aM 2 (by simp[rB,ltOb,ltC,ltK]) (zF (by simp[go_sem]<;>exact⟨rfl,rfl,rfl,rfl,rfl,rfl⟩) rfl)
  .rw[if_neg (by rw[q2];decide)]at hinv
   refine pR (aa false q2) ?_
   simp[go_sem]
   exact yY (L:=L) zL ⟨by rw[<-hinv];simp[GItem.row]<;>exact⟨rfl,rfl,rfl,rfl,rfl,rfl⟩,by rw[<-hinv]⟩
 have q1:isT L zU9 m=false:=by simpa using q1
 rw[if_neg (by rw[q1];decide)]at hit
 by_cases ag:isT L wSUM m=true
 .rw[if_pos ag]at hit
  have ah:=hs.next hL ag
  have ai:=zd8 L hL _ ah [40]
  have af:=zk2 hL (w:= [40]) ah
  have ar:=zp2 (L:=L) [40] (zK m)
  generalize zY L [40] (zK m)=u1 at ai af ar hit
  have au:u1.opn=0:=by rw[ar];exact ho
  have hx:=ex_w L hL u1 af au
  have av:=(xr3 hL af au).rin
  generalize exF L u1=x at hx av hit
  have aj:=zd8 L hL _ av [41]
  generalize zY L [41] x.2=u3 at aj hit
  subst hit
  simp only at hinv ad aa
  refine zA ?_
  simp[go_sem]
  refine pR ae ?_
  simp[go_sem]
  refine pR ab ?_
  simp[go_sem]
  refine pR (wK L hL m hs _ q1) ?_
  simp[go_sem]
  refine pR (xD L hL m hs _ ag) ?_
  simp[go_sem]
  refine pR ai ?_
  simp[go_sem]
  refine za4 hx cB rd_1 ?_
  simp[go_sem,GExpr.row_eq]
  refine pR aj ?_
  simp[go_sem]
  refine zG ⟨om,zX rfl⟩ ?_
  simp[go_sem]
  refine(Ab (isT L [44] u3)).elim (fun q2=> ?_) (fun q2=> ?_)
  .rw[if_pos q2]at hinv
   refine pR (aa true q2) ?_
   simp[go_sem]
   refine zH (l++ [⟨4,x.1⟩],zK u3) ⟨by simp;omega,⟨by simp;omega,ad.trans (yP hL ad.rin q2),by simp only[B0,Bk,show 7 - (l.length+1)=6 - l.length by omega];exact hinv⟩, ?_⟩
   exact aM 2 (by simp[rB,ltOb,ltC,ltK]) (zF (by simp[go_sem]<;>exact⟨rfl,rfl,rfl,rfl,rfl,rfl⟩) rfl)
  .rw[if_neg (by rw[q2];decide)]at hinv
   refine pR (aa false q2) ?_
   simp[go_sem]
   exact yY (L:=L) zL ⟨by rw[<-hinv];simp[GItem.row]<;>exact⟨rfl,rfl,rfl,rfl,rfl,rfl⟩,by rw[<-hinv]⟩
 have ag:isT L wSUM m=false:=by simpa using ag
 rw[if_neg (by rw[ag];decide)]at hit
 .have hx:=ex_w L hL m hs ho
  generalize exF L m=x at hx hit
  subst hit
  simp only at hinv ad aa
  refine zA ?_
  simp[go_sem]
  refine pR ae ?_
  simp[go_sem]
  refine pR ab ?_
  simp[go_sem]
  refine pR (wK L hL m hs _ q1) ?_
  simp[go_sem]
  refine pR (wK L hL m hs _ ag) ?_
  simp[go_sem]
  refine za4 hx cB rd_1 ?_
  simp[go_sem,GExpr.row_eq]
  refine zG ⟨om,zX rfl⟩ ?_
  simp[go_sem]
  refine(Ab (isT L [44] x.2)).elim (fun q2=> ?_) (fun q2=> ?_)
  .rw[if_pos q2]at hinv
   refine pR (aa true q2) ?_
   simp[go_sem]
   refine zH (l++ [⟨2,x.1⟩],zK x.2) ⟨by simp;omega,⟨by simp;omega,ad.trans (yP hL ad.rin q2),by simp only[B0,Bk,show 7 - (l.length+1)=6 - l.length by omega];exact hinv⟩, ?_⟩
   exact aM 2 (by simp[rB,ltOb,ltC,ltK]) (zF (by simp[go_sem]<;>exact⟨rfl,rfl,rfl,rfl,rfl,rfl⟩) rfl)
  .rw[if_neg (by rw[q2];decide)]at hinv
   refine pR (aa false q2) ?_
   simp[go_sem]
   exact yY (L:=L) zL ⟨by rw[<-hinv];simp[GItem.row]<;>exact⟨rfl,rfl,rfl,rfl,rfl,rfl⟩,by rw[<-hinv]⟩
variable {L:List GToken}
def whE (L:List GToken) (s:RS):Bool×GExpr:=if isT L zN7 s=true then(true,(exF L (zK s)).1)else(false,zeroE)
theorem xV4 (L:List GToken) (s:RS) (a b:List V): ∃g:Tag,whB L s a b (.box (a++ [.bool false,.int .i64 0,.str [],.int .i64 0,.int .i64 0,.str [],.sl .full []]++b))=
  .box (a++ [.bool (whE L s).1,.int .i64 (whE L s).2.kind,.str (whE L s).2.s,.int .i64 (whE L s).2.v.kind,.int .i64 (whE L s).2.v.n,.str (whE L s).2.v.s,.sl g ((whE L s).2.args.map GExpr.row)]++b):=by
 unfold whB whE
 by_cases q:isT L zN7 s=true
 .exact⟨.ro,by rw[if_pos q,if_pos q];simp[rowC]⟩
 .exact⟨.full,by rw[if_neg q,if_neg q];rfl⟩
theorem yi3 (L:List GToken) (hL:LIn L) (s:RS) (hs:RIn L s) (ho:s.opn=0) (τ:St) (j:Nat) (c0 c1 c2 c3 c4 aa ab ad:V) (hj:τ[j]? =some (.box [c0,c1,c2,c3,c4,.bool false,.int .i64 0,.str [],.int .i64 0,.int .i64 0,.str [],.sl .full [],aa,ab,ad])):
  ∃g:Tag,VCalls prog 139 [.ptr 0 0,.ptr (j+1) 0] (rB L s::τ) (fun r σ=>r= .tup []/\σ=rB L (whS L s)::τ.set j (.box [c0,c1,c2,c3,c4,.bool (whE L s).1,.int .i64 (whE L s).2.kind,.str (whE L s).2.s,.int .i64 (whE L s).2.v.kind,.int .i64 (whE L s).2.v.n,.str (whE L s).2.v.s,.sl g ((whE L s).2.args.map GExpr.row),aa,ab,ad])):=by
 obtain⟨g,hg⟩:=xV4 L s [c0,c1,c2,c3,c4] [aa,ab,ad]
 refine⟨g, ?_⟩
 have:=xL5 L hL s hs ho τ j c0 c1 c2 c3 c4 _ _ _ _ _ _ _ aa ab ad hj
 simp only[Bu,Ck]at hg
 rw[hg]at this
 exact this
def zB9:List UInt8:= [70,82,79,77]
def yT8:List UInt8:= [79,82,68,69,82]
def wBY:List UInt8:= [66,89]
def wASC:List UInt8:= [65,83,67]
def xA4:List UInt8:= [68,69,83,67]
def zE7:List UInt8:= [76,73,77,73,84]
def zH3 (L:List GToken) (s:RS):(List UInt8×Bool)×RS:=
 if isT L yT8 s=true then
  if isT L wASC (yR L (zY L wBY (zK s))).2=true then(((yR L (zY L wBY (zK s))).1,false),zK (yR L (zY L wBY (zK s))).2)
  else if isT L xA4 (yR L (zY L wBY (zK s))).2=true then(((yR L (zY L wBY (zK s))).1,true),zK (yR L (zY L wBY (zK s))).2)
  else(((yR L (zY L wBY (zK s))).1,false),(yR L (zY L wBY (zK s))).2)
 else(([],false),s)
def zH2 (L:List GToken) (s:RS):Int×RS:=if isT L zE7 s=true then numF L (zK s)else(-1,s)
theorem yf7 (hL:LIn L) {s:RS} (h:RIn L s):UI L s (zH3 L s).2:=by
 unfold zH3
 split
 .rename_i hi
  have h1:=yP hL h hi
  have h2:=h1.trans (yA hL wBY h1.rin)
  have h3:=h2.trans (zd1 hL h2.rin)
  split
  .exact h3.trans (yP hL h3.rin ‹_›)
  split
  .exact h3.trans (yP hL h3.rin ‹_›)
  .exact h3
 .exact UI.refl h
theorem yF6 (hL:LIn L) {s:RS} (h:RIn L s):UI L s (zH2 L s).2:=by
 unfold zH2
 split
 .rename_i hi
  have h1:=yP hL h hi
  exact h1.trans (yQ3 hL h1.rin)
 .exact UI.refl h
def zk7 (L:List GToken) (s:RS):GStmt×RS:=
 let x:=zp1 L s
 let n:=yR L (zY L zB9 x.2)
 let w:=whE L n.2
 let o:=zH3 L (whS L n.2)
 let l:=zH2 L o.2
 (⟨1,n.1,x.1,[],[],w.1,w.2,o.1.1,o.1.2,l.1⟩,l.2)
theorem yo9 (hL:LIn L): ∀(n:Nat) (l:List GItem) (s:RS),RIn L s->s.opn=0->UI L s (zv2 L n l s).2
 |0,_,_,h,_=>UI.refl h
 |n+1,l,s,h,ho=>by
  unfold zv2
  split
  .rename_i he
   have h1:=yw0 hL h ho
   split
   .have h2:=h1.trans (yP hL h1.rin ‹_›)
    exact h2.trans (yo9 hL n _ _ h2.rin (h2.opn.trans ho))
   .exact h1
  .exact zn7 h
theorem yd6 (hL:LIn L) {s:RS} (h:RIn L s) (ho:s.opn=0):UI L s (zp1 L s).2:=by
 unfold zp1
 split
 .exact yP hL h ‹_›
 .exact yo9 hL 7 [] s h ho
def RT (L:List GToken) (x:GStmt×RS):V->St->Prop:=fun r σ=>r= .agg x.1.row/\σ= [rB L x.2]
theorem zh0 {g1 g2 g3 g4:Tag} {st:GStmt} {s:RS} {M:GStmt×RS} (h:(st,s)=M):
  wret (some (.agg [.int .i64 st.kind,.str st.table,.sl g1 (st.items.map GItem.row),.sl g2 (st.rows.map fun l=> [V.sl .ro (l.map GExpr.row)]),.sl g3 (st.sets.map GAssign.row),.bool st.filtered,.int .i64 st.where_.kind,.str st.where_.s,.int .i64 st.where_.v.kind,.int .i64 st.where_.v.n,.str st.where_.v.s,.sl g4 (st.where_.args.map GExpr.row),.str st.order,.bool st.down,.int .i64 st.limit])) 1 (RT L M) (rB L s::τ):=by
 subst h
 exact yY (L:=L) (r:= .agg st.row) (zu7 ⟨zU rfl,zU rfl,yS,yS,yS,zU rfl,zU rfl,zU rfl,zU rfl,zU rfl,zU rfl,yS,zU rfl,zU rfl,zU rfl,tV⟩) ⟨rfl,rfl⟩
theorem yf1 (st:GStmt):noS (.agg st.row)=true:=rfl
theorem xk0 (L:List GToken) (hL:LIn L) (s:RS) (hs:RIn L s) (ho:s.opn=0):VCalls prog 135 [.ptr 0 0] [rB L s] (RT L (zk7 L s)):=by
 generalize hM:zk7 L s=M
 unfold zk7 at hM
 have hx:=xG3 L hL s hs ho
 have af:=yd6 hL hs ho
 generalize zp1 L s=x at hx af hM
 obtain⟨xl,s1⟩:=x
 simp only at hx af hM
 have hm:=zd8 L hL s1 af.rin zB9
 have ag:=af.trans (yA hL zB9 af.rin)
 generalize zY L zB9 s1=s2 at hm ag hM
 have hn:=zM7 L hL s2 ag.rin
 have ad:=ag.trans (zd1 hL ag.rin)
 generalize yR L s2=n at hn ad hM
 obtain⟨nm,s3⟩:=n
 simp only at hn ad hM
 obtain⟨gw,hw⟩:=yi3 L hL s3 ad.rin (ad.opn.trans ho) [.box [.int .i64 0,.str [],.sl .full [],.sl .full [],.sl .full [],.bool false,.int .i64 0,.str [],.int .i64 0,.int .i64 0,.str [],.sl .full [],.str [],.bool false,.int .i64 0],.box [.int .i64 1,.str nm,.sl .ro (xl.map GItem.row),.sl .full [],.sl .full [],.bool false,.int .i64 0,.str [],.int .i64 0,.int .i64 0,.str [],.sl .full [],.str [],.bool false,.int .i64 (-1)]] 1 _ _ _ _ _ _ _ _ rfl
 have ae:=ad.trans (ys2 hL ad.rin (ad.opn.trans ho))
 generalize whS L s3=s4 at hw ae hM
 generalize whE L s3=w at hw hM
 obtain⟨wb,we⟩:=w
 simp only[C9,Dc]at hw hM
 have ah:=yf7 hL ae.rin
 generalize hO:zH3 L s4=o at ah hM
 obtain⟨⟨on,od⟩,s5⟩:=o
 simp only at ah hM
 have aa:=ae.trans ah
 generalize hl:zH2 L s5=l at hM
 obtain⟨ll,s6⟩:=l
 simp only at hM
 unfold zH3 at hO
 unfold zH2 at hl
 refine iW 1 func135 ntmps135 results135 fun c hc hb=>zJ ?_
 simp[go_sem]
 refine pR hx ?_
 simp[go_sem]
 refine pR hm ?_
 simp[go_sem]
 refine pR hn ?_
 simp[go_sem]
 refine zC0 hw cB ?_
 rintro r σ ⟨rfl,rfl⟩ _
 simp[go_sem]
 by_cases qO:isT L yT8 s4=true
 rotate_left
 .have qO:isT L yT8 s4=false:=by simpa using qO
  rw[if_neg (by rw[qO];decide)]at hO
  obtain⟨⟨rfl,rfl⟩,rfl⟩:([]=on/\false=od)/\s4=s5:=by simpa using hO
  refine pR (wK L hL s4 ae.rin _ qO) ?_
  simp[go_sem]
  by_cases qL:isT L zE7 s4=true
  .rw[if_pos qL]at hl
   have ab:=yp7 L hL (zK s4) (aa.rin.next hL qL)
   rw[hl]at ab
   refine pR (xD L hL s4 aa.rin _ qL) ?_
   simp[go_sem]
   refine pR ab ?_
   simp[go_sem]
   exact zh0 (st:=⟨1,nm,xl,[],[],wb,we,_,_,ll⟩) hM
  .have qL:isT L zE7 s4=false:=by simpa using qL
   rw[if_neg (by rw[qL];decide)]at hl
   obtain⟨rfl,rfl⟩: -1=ll/\s4=s6:=by simpa using hl
   refine pR (wK L hL s4 aa.rin _ qL) ?_
   simp[go_sem]
   exact zh0 (st:=⟨1,nm,xl,[],[],wb,we,_,_,-1⟩) hM
 rw[if_pos qO]at hO
 have h1:=yP hL ae.rin qO
 have ak:=zd8 L hL _ h1.rin wBY
 have h2:=yA hL wBY h1.rin
 generalize zY L wBY (zK s4)=t1 at ak h2 hO
 have ai:=zM7 L hL _ h2.rin
 have h3:=zd1 hL h2.rin
 generalize yR L t1=n2 at ai h3 hO
 obtain⟨aj,t2⟩:=n2
 simp only at ai h3 hO
 refine pR (xD L hL s4 ae.rin _ qO) ?_
 simp[go_sem]
 refine pR ak ?_
 simp[go_sem]
 refine pR ai ?_
 simp[go_sem]
 by_cases qA:isT L wASC t2=true
 .rw[if_pos qA]at hO
  obtain⟨⟨rfl,rfl⟩,rfl⟩:(aj=on/\false=od)/\zK t2=s5:=by simpa using hO
  refine pR (xD L hL t2 h3.rin _ qA) ?_
  simp[go_sem]
  by_cases qL:isT L zE7 (zK t2)=true
  .rw[if_pos qL]at hl
   have ab:=yp7 L hL (zK (zK t2)) (aa.rin.next hL qL)
   rw[hl]at ab
   refine pR (xD L hL (zK t2) aa.rin _ qL) ?_
   simp[go_sem]
   refine pR ab ?_
   simp[go_sem]
   exact zh0 (st:=⟨1,nm,xl,[],[],wb,we,_,_,ll⟩) hM
  .have qL:isT L zE7 (zK t2)=false:=by simpa using qL
   rw[if_neg (by rw[qL];decide)]at hl
   obtain⟨rfl,rfl⟩: -1=ll/\(zK t2)=s6:=by simpa using hl
   refine pR (wK L hL (zK t2) aa.rin _ qL) ?_
   simp[go_sem]
   exact zh0 (st:=⟨1,nm,xl,[],[],wb,we,_,_,-1⟩) hM
 have qA:isT L wASC t2=false:=by simpa using qA
 rw[if_neg (by rw[qA];decide)]at hO
 refine pR (wK L hL t2 h3.rin _ qA) ?_
 simp[go_sem]
 by_cases qD:isT L xA4 t2=true
 .rw[if_pos qD]at hO
  obtain⟨⟨rfl,rfl⟩,rfl⟩:(aj=on/\true=od)/\zK t2=s5:=by simpa using hO
  refine pR (xD L hL t2 h3.rin _ qD) ?_
  simp[go_sem]
  by_cases qL:isT L zE7 (zK t2)=true
  .rw[if_pos qL]at hl
   have ab:=yp7 L hL (zK (zK t2)) (aa.rin.next hL qL)
   rw[hl]at ab
   refine pR (xD L hL (zK t2) aa.rin _ qL) ?_
   simp[go_sem]
   refine pR ab ?_
   simp[go_sem]
   exact zh0 (st:=⟨1,nm,xl,[],[],wb,we,_,_,ll⟩) hM
  .have qL:isT L zE7 (zK t2)=false:=by simpa using qL
   rw[if_neg (by rw[qL];decide)]at hl
   obtain⟨rfl,rfl⟩: -1=ll/\(zK t2)=s6:=by simpa using hl
   refine pR (wK L hL (zK t2) aa.rin _ qL) ?_
   simp[go_sem]
   exact zh0 (st:=⟨1,nm,xl,[],[],wb,we,_,_,-1⟩) hM
 .have qD:isT L xA4 t2=false:=by simpa using qD
  rw[if_neg (by rw[qD];decide)]at hO
  obtain⟨⟨rfl,rfl⟩,rfl⟩:(aj=on/\false=od)/\t2=s5:=by simpa using hO
  refine pR (wK L hL t2 h3.rin _ qD) ?_
  simp[go_sem]
  by_cases qL:isT L zE7 t2=true
  .rw[if_pos qL]at hl
   have ab:=yp7 L hL (zK t2) (aa.rin.next hL qL)
   rw[hl]at ab
   refine pR (xD L hL t2 aa.rin _ qL) ?_
   simp[go_sem]
   refine pR ab ?_
   simp[go_sem]
   exact zh0 (st:=⟨1,nm,xl,[],[],wb,we,_,_,ll⟩) hM
  .have qL:isT L zE7 t2=false:=by simpa using qL
   rw[if_neg (by rw[qL];decide)]at hl
   obtain⟨rfl,rfl⟩: -1=ll/\t2=s6:=by simpa using hl
   refine pR (wK L hL t2 aa.rin _ qL) ?_
   simp[go_sem]
   exact zh0 (st:=⟨1,nm,xl,[],[],wb,we,_,_,-1⟩) hM
variable {L:List GToken}
def rowL (L:List GToken):Nat->List GExpr->RS->Bool×List GExpr×RS
 |0,l,s=>(false,l,s)
 |n+1,l,s=>
  if(zf7 L l.length 6 (begF L false s) s).err=0 then
   (if isT L [44] (exF L s).2=true then rowL L n (l++ [(exF L s).1]) (zK (exF L s).2)else(true,l++ [(exF L s).1],(exF L s).2))
  else(false,l,zf7 L l.length 6 (begF L false s) s)
def zF6 (L:List GToken):Nat->List (List GExpr)->RS->List (List GExpr)×RS
 |0,R,s=>(R,s)
 |n+1,R,s=>
  if(zf7 L R.length 16 (isT L [40] s) s).err=0 then
   (if(rowL L 7 [] (zY L [40] s)).1=true then
    (if isT L [44] (zY L [41] (rowL L 7 [] (zY L [40] s)).2.2)=true then zF6 L n (R++ [(rowL L 7 [] (zY L [40] s)).2.1]) (zK (zY L [41] (rowL L 7 [] (zY L [40] s)).2.2))
    else(R++ [(rowL L 7 [] (zY L [40] s)).2.1],zY L [41] (rowL L 7 [] (zY L [40] s)).2.2))
   else(R,(rowL L 7 [] (zY L [40] s)).2.2))
  else(R,zf7 L R.length 16 (isT L [40] s) s)
def yh8:List UInt8:= [73,78,84,79]
def zK5:List UInt8:= [86,65,76,85,69,83]
def zj9 (L:List GToken) (s:RS):GStmt×RS:=
 let n:=yR L (zY L yh8 s)
 let r:=zF6 L 17 [] (zY L zK5 n.2)
 (⟨2,n.1,[],r.1,[],false,zeroE,[],false,0⟩,r.2)
theorem yy0 (hL:LIn L): ∀(n:Nat) (l:List GExpr) (s:RS),RIn L s->s.opn=0->UI L s (rowL L n l s).2.2
 |0,_,_,h,_=>UI.refl h
 |n+1,l,s,h,ho=>by
  unfold rowL
  split
  .have h1:=zL0 hL h ho
   split
   .have h2:=h1.trans (yP hL h1.rin ‹_›)
    exact h2.trans (yy0 hL n _ _ h2.rin (h2.opn.trans ho))
   .exact h1
  .exact zn7 h
theorem yJ2 (hL:LIn L): ∀(n:Nat) (R:List (List GExpr)) (s:RS),RIn L s->s.opn=0->UI L s (zF6 L n R s).2
 |0,_,_,h,_=>UI.refl h
 |n+1,R,s,h,ho=>by
  unfold zF6
  split
  .have h1:=yA hL [40] h
   have h2:=h1.trans (yy0 hL 7 [] _ h1.rin (h1.opn.trans ho))
   split
   .have h3:=h2.trans (yA hL [41] h2.rin)
    split
    .have h4:=h3.trans (yP hL h3.rin ‹_›)
     exact h4.trans (yJ2 hL n _ _ h4.rin (h4.opn.trans ho))
    .exact h3
   .exact h2
  .exact zn7 h
theorem yP0 (hL:LIn L) {s:RS} (h:RIn L s) (ho:s.opn=0):UI L s (zj9 L s).2:=by
 unfold zj9
 have h1:=yA hL yh8 h
 have h2:=h1.trans (zd1 hL h1.rin)
 have h3:=h2.trans (yA hL zK5 h2.rin)
 exact h3.trans (yJ2 hL 17 [] _ h3.rin (h3.opn.trans ho))
def inB (nm:List UInt8) (R:List (List GExpr)):Ob:= .box [.int .i64 2,.str nm,.sl .full [],.sl (.app 3) (R.map fun l=> [V.sl .ro (l.map GExpr.row)]),.sl .full [],.bool false,.int .i64 0,.str [],.int .i64 0,.int .i64 0,.str [],.sl .full [],.str [],.bool false,.int .i64 0]
def zSt:Ob:= .box [.int .i64 0,.str [],.sl .full [],.sl .full [],.sl .full [],.bool false,.int .i64 0,.str [],.int .i64 0,.int .i64 0,.str [],.sl .full [],.str [],.bool false,.int .i64 0]
theorem xf7 (L:List GToken) (hL:LIn L) (s0:RS) (au:RIn L s0) (av:s0.opn=0):VCalls prog 136 [.ptr 0 0] [rB L s0] (RT L (zj9 L s0)):=by
 generalize hM:zj9 L s0=M
 unfold zj9 at hM
 have aw:=zd8 L hL s0 au yh8
 have ak:=yA hL yh8 au
 generalize zY L yh8 s0=s1 at aw ak hM
 have hn:=zM7 L hL s1 ak.rin
 have ag:=ak.trans (zd1 hL ak.rin)
 generalize yR L s1=n at hn ag hM
 obtain⟨nm,s2⟩:=n
 simp only at hn ag hM
 have ax:=zd8 L hL s2 ag.rin zK5
 have ay:=ag.trans (yA hL zK5 ag.rin)
 generalize zY L zK5 s2=s3 at ax ay hM
 obtain⟨X,hX⟩:=eX (zF6 L 17 [] s3)
 rw[hX]at hM
 have ret: ∀(R:List (List GExpr)) (s:RS) (τ:St),(R,s)=X->wret (some (.agg [.int .i64 2,.str nm,.sl .full [],.sl (.app 3) (R.map fun l=> [V.sl .ro (l.map GExpr.row)]),.sl .full [],.bool false,.int .i64 0,.str [],.int .i64 0,.int .i64 0,.str [],.sl .full [],.str [],.bool false,.int .i64 0])) 1 (RT L M) (rB L s::τ):=fun R s τ h=>by
  subst h
  exact zh0 (st:=⟨2,nm,[],R,[],false,zeroE,[],false,0⟩) hM
 refine iV 1 func136 ntmps136 results136 fun c hc hb=> ?_
 refine zA ?_
 simp[go_sem]
 refine pR aw ?_
 simp[go_sem]
 refine pR hn ?_
 simp[go_sem]
 refine pR ax ?_
 simp[go_sem]
 refine zI4 2 3 1 _ dc rfl rfl ?_
 simp only[C9,Dc]
 refine zI (S:=List (List GExpr)×RS) [0,2,3] (fun u=> [.ptr 0 0,.ptr 1 0,.ptr 2 0]) (fun u=> [rB L u.2,zSt,inB nm u.1,.app u.1.length 1]) (fun u=>17 - u.1.length) (fun u=>u.1.length<=16/\UI L s0 u.2/\zF6 L (17 - u.1.length) u.1 u.2=X) hc hb ([],s3) ⟨A7 _,ay,hX⟩ ?_ ?_
 .exact at_n 4 (by simp[go_sem];exact⟨rfl,rfl⟩) rfl (by simp[rB,zSt,inB,ltOb,ltC,ltK]) dc (zF sg rfl)
 rintro⟨R,s⟩ ⟨hR,hu,hinv⟩
 simp only at hR hu hinv
 have hs:=hu.rin
 have ho:=hu.opn.trans av
 have ah:=is_w L hL s hs [40]
 have ad:=ye8 L hL s hs R.length 16 (isT L [40] s)
 have an:=zg1 (L:=L) (n:=R.length) (most:=16) (b:=isT L [40] s) (s:=s)
 rw[show 17 - R.length=(16 - R.length)+1 by omega,zF6]at hinv
 generalize isT L [40] s=bg at ah ad an hinv
 generalize zf7 L R.length 16 bg s=m at ad an hinv
 by_cases q:m.err=0
 rotate_left
 .have q':(m.err==0)=false:=by simpa using q
  rw[if_neg q]at hinv
  rw[q']at ad
  refine zA ?_
  simp[go_sem]
  refine za7 [(5,3),(6,3)] 1 4 sm kR kR ?_
  simp[go_sem,inB]
  refine zw9 ah cB (wA ⟨zC rfl,tV⟩) rfl ?_
  simp[go_sem]
  refine zw9 ad cB (wA ⟨zC rfl,zC rfl,zC rfl,tV⟩) rfl ?_
  simp[go_sem]
  exact ret _ _ _ hinv
 have q':(m.err==0)=true:=by simpa using q
 obtain⟨he,aC,rfl⟩:=an q
 rw[if_pos q]at hinv
 rw[q']at ad
 have az:=zd8 L hL m hs [40]
 have a1:=hu.trans (yA hL [40] hs)
 generalize zY L [40] m=s4 at az a1 hinv
 obtain⟨Y,hY⟩:=eX (rowL L 7 [] s4)
 rw[hY]at hinv
 refine zA ?_
 simp[go_sem]
 refine za7 [(5,3),(6,3)] 1 4 sm kR kR ?_
 simp[go_sem,inB]
 refine zw9 ah cB (wA ⟨zC rfl,tV⟩) rfl ?_
 simp[go_sem]
 refine zw9 ad cB (wA ⟨zC rfl,zC rfl,zC rfl,tV⟩) rfl ?_
 simp[go_sem]
 refine pR az ?_
 simp[go_sem]
 refine zo3 4 6 dc sg ?_
 refine zI (S:=List GExpr×RS) [0,2,3,4] (fun u=> [.ptr 0 0,.ptr 1 0,.ptr 2 0,.sl (.app 4) (u.1.map GExpr.row)]) (fun u=> [rB L u.2,zSt,inB nm R,.app R.length 1,.app u.1.length 6]) (fun u=>7 - u.1.length) (fun u=>u.1.length<=6/\UI L s0 u.2/\rowL L (7 - u.1.length) u.1 u.2=Y) hc hb ([],s4) ⟨A7 _,a1,hY⟩ ?_ ?_
 .exact at_n 5 (by simp[go_sem];rfl) rfl (by simp[rB,zSt,inB,ltOb,ltC,ltK]) dc (zF sg rfl)
 rintro⟨l,t⟩ ⟨hl,al,aa⟩
 simp only at hl al aa
 have ht:=al.rin
 have a6:=al.opn.trans av
 have ae:=yB3 L hL t ht false
 have ab:=ye8 L hL t ht l.length 6 (begF L false t)
 have ai:=zg1 (L:=L) (n:=l.length) (most:=6) (b:=begF L false t) (s:=t)
 rw[show 7 - l.length=(6 - l.length)+1 by omega,rowL]at aa
 generalize begF L false t=a8 at ae ab ai aa
 generalize zf7 L l.length 6 a8 t=m2 at ab ai aa
 by_cases q2:m2.err=0
 rotate_left
 .have ao:(m2.err==0)=false:=by simpa using q2
  rw[if_neg q2]at aa
  rw[ao]at ab
  have aq:Y.1=false:=by rw[<-aa]
  have ar:Y.2.2=m2:=by rw[<-aa]
  rw[if_neg (by rw[aq];decide),ar]at hinv
  refine zA ?_
  simp[go_sem]
  refine pR ae ?_
  simp[go_sem]
  refine pR ab ?_
  simp[go_sem,inB]
  exact ret _ _ _ hinv
 have ao:(m2.err==0)=true:=by simpa using q2
 obtain⟨aD,aB,rfl⟩:=ai q2
 rw[if_pos q2]at aa
 rw[ao]at ab
 have hx:=ex_w L hL m2 ht a6
 have af:=al.trans (zL0 hL ht a6)
 generalize exF L m2=x at hx af aa
 by_cases q3:isT L [44] x.2=true
 .rw[if_pos q3]at aa
  refine zA ?_
  simp[go_sem]
  refine pR ae ?_
  simp[go_sem]
  refine pR ab ?_
  simp[go_sem]
  refine za4 hx cB rd_1 ?_
  simp[go_sem,GExpr.row_eq]
  refine zG ⟨om,zX rfl⟩ ?_
  simp[go_sem]
  refine pR (xD L hL x.2 af.rin _ q3) ?_
  simp[go_sem]
  refine zH (l++ [x.1],zK x.2) ⟨by simp;omega,⟨by simp;omega,af.trans (yP hL af.rin q3),by simp only[B0,Bk,show 7 - (l.length+1)=6 - l.length by omega];exact aa⟩, ?_⟩
  exact aM 5 (by simp[rB,zSt,inB,ltOb,ltC,ltK]) (zF (by simp[go_sem,GExpr.row_eq]) rfl)
 have q3:isT L [44] x.2=false:=by simpa using q3
 rw[if_neg (by rw[q3];decide)]at aa
 have aq:Y.1=true:=by rw[<-aa]
 have ar:Y.2.2=x.2:=by rw[<-aa]
 have aA:Y.2.1=l++ [x.1]:=by rw[<-aa]
 rw[if_pos aq,ar,aA]at hinv
 have a7:=zd8 L hL x.2 af.rin [41]
 have aj:=af.trans (yA hL [41] af.rin)
 generalize zY L [41] x.2=s5 at a7 aj hinv
 refine zA ?_
 simp[go_sem]
 refine pR ae ?_
 simp[go_sem]
 refine pR ab ?_
 simp[go_sem]
 refine za4 hx cB rd_1 ?_
 simp[go_sem,GExpr.row_eq]
 refine zG ⟨om,zX rfl⟩ ?_
 simp[go_sem]
 refine pR (wK L hL x.2 af.rin _ q3) ?_
 simp[go_sem]
 refine pR a7 ?_
 simp[go_sem,inB]
 refine zG ⟨om,zX rfl⟩ ?_
 simp[go_sem]
 by_cases q5:isT L [44] s5=true
 .rw[if_pos q5]at hinv
  refine pR (xD L hL s5 aj.rin _ q5) ?_
  simp[go_sem]
  refine zH (R++ [l++ [x.1]],zK s5) ⟨by simp;omega,⟨by simp;omega,aj.trans (yP hL aj.rin q5),by simp only[B0,Bk,show 17 - (R.length+1)=16 - R.length by omega];exact hinv⟩, ?_⟩
  exact at_n 4 (by simp[go_sem,GExpr.row_eq]) rfl (by simp[rB,zSt,ltOb,ltC,ltK]) dc (zF sg rfl)
 .have q5:isT L [44] s5=false:=by simpa using q5
  rw[if_neg (by rw[q5];decide)]at hinv
  refine pR (wK L hL s5 aj.rin _ q5) ?_
  simp[go_sem]
  have hr:=ret (R++ [l++ [x.1]]) s5
  simp[GExpr.row_eq]at hr
  exact hr _ hinv
variable {L:List GToken}
def zT3 (L:List GToken) (s:RS):Bool:=(tokF L s).kind==1&&zl1 (tokF L s).s
def wSET:List UInt8:= [83,69,84]
def zB2 (L:List GToken):Nat->List GAssign->RS->Bool×List GAssign×RS
 |0,l,s=>(false,l,s)
 |n+1,l,s=>
  if(zf7 L l.length 6 (zT3 L s) s).err=0 then
   (if isT L [44] (exF L (zY L [61] (yR L s).2)).2=true then zB2 L n (l++ [⟨(yR L s).1,(exF L (zY L [61] (yR L s).2)).1⟩]) (zK (exF L (zY L [61] (yR L s).2)).2)
   else(true,l++ [⟨(yR L s).1,(exF L (zY L [61] (yR L s).2)).1⟩],(exF L (zY L [61] (yR L s).2)).2))
  else(false,l,zf7 L l.length 6 (zT3 L s) s)
def zl0 (L:List GToken) (s:RS):GStmt×RS:=
 let n:=yR L s
 let r:=zB2 L 7 [] (zY L wSET n.2)
 if r.1=true then(⟨3,n.1,[],[],r.2.1,(whE L r.2.2).1,(whE L r.2.2).2,[],false,0⟩,whS L r.2.2)
 else(⟨3,n.1,[],[],r.2.1,false,zeroE,[],false,0⟩,r.2.2)
theorem yg7 (hL:LIn L): ∀(n:Nat) (l:List GAssign) (s:RS),RIn L s->s.opn=0->UI L s (zB2 L n l s).2.2
 |0,_,_,h,_=>UI.refl h
 |n+1,l,s,h,ho=>by
  unfold zB2
  split
  .have h1:=zd1 hL h
   have h2:=h1.trans (yA hL [61] h1.rin)
   have h3:=h2.trans (zL0 hL h2.rin (h2.opn.trans ho))
   split
   .have h4:=h3.trans (yP hL h3.rin ‹_›)
    exact h4.trans (yg7 hL n _ _ h4.rin (h4.opn.trans ho))
   .exact h3
  .exact zn7 h
theorem yT6 (hL:LIn L) {s:RS} (h:RIn L s) (ho:s.opn=0):UI L s (zl0 L s).2:=by
 unfold zl0
 have h1:=zd1 hL h
 have h2:=h1.trans (yA hL wSET h1.rin)
 have h3:=h2.trans (yg7 hL 7 [] _ h2.rin (h2.opn.trans ho))
 simp only
 split
 .exact h3.trans (ys2 hL h3.rin (h3.opn.trans ho))
 .exact h3
def upB (nm:List UInt8) (l:List GAssign):Ob:= .box [.int .i64 3,.str nm,.sl .full [],.sl .full [],.sl (.app 3) (l.map GAssign.row),.bool false,.int .i64 0,.str [],.int .i64 0,.int .i64 0,.str [],.sl .full [],.str [],.bool false,.int .i64 0]
theorem xl2 (L:List GToken) (hL:LIn L) (s0:RS) (av:RIn L s0) (al:s0.opn=0):VCalls prog 137 [.ptr 0 0] [rB L s0] (RT L (zl0 L s0)):=by
 generalize hM:zl0 L s0=M
 unfold zl0 at hM
 have hn:=zM7 L hL s0 av
 have ah:=zd1 hL av
 generalize yR L s0=n at hn ah hM
 obtain⟨nm,s2⟩:=n
 simp only at hn ah hM
 have aw:=zd8 L hL s2 ah.rin wSET
 have ax:=ah.trans (yA hL wSET ah.rin)
 generalize zY L wSET s2=s3 at aw ax hM
 obtain⟨X,hX⟩:=eX (zB2 L 7 [] s3)
 rw[hX]at hM
 refine iV 1 func137 ntmps137 results137 fun c hc hb=> ?_
 refine zA ?_
 simp[go_sem]
 refine pR hn ?_
 simp[go_sem]
 refine pR aw ?_
 simp[go_sem]
 refine zI4 2 4 7 _ dc rfl rfl ?_
 simp only[C9,Dc]
 refine zI (S:=List GAssign×RS) [0,2,3] (fun u=> [.ptr 0 0,.ptr 1 0,.ptr 2 0]) (fun u=> [rB L u.2,zSt,upB nm u.1,.app u.1.length 7]) (fun u=>7 - u.1.length) (fun u=>u.1.length<=6/\UI L s0 u.2/\zB2 L (7 - u.1.length) u.1 u.2=X) hc hb ([],s3) ⟨A7 _,ax,hX⟩ ?_ ?_
 .exact at_n 4 (by simp[go_sem];exact⟨rfl,rfl⟩) rfl (by simp[rB,zSt,upB,ltOb,ltC,ltK]) dc (zF sg rfl)
 rintro⟨l,s⟩ ⟨hl,hu,hinv⟩
 simp only at hl hu hinv
 have hs:=hu.rin
 have ho:=hu.opn.trans al
 have ad:=zr5 L hL s hs
 have ai:=zU1 (tokF L s).s (hL.txt _ (zB5 hs))
 have aa:=ye8 L hL s hs l.length 6 (zT3 L s)
 have ao:=zg1 (L:=L) (n:=l.length) (most:=6) (b:=zT3 L s) (s:=s)
 rw[show 7 - l.length=(6 - l.length)+1 by omega,zB2]at hinv
 generalize an:zT3 L s=bg at aa ao hinv
 unfold zT3 at an
 have ae:=zM7 L hL s hs
 have aj:=hu.trans (zd1 hL hs)
 generalize tokF L s=tk at ad ai an
 generalize zl1 tk.s=wd at ai an
 generalize zf7 L l.length 6 bg s=m at aa ao hinv
 have key:((tk.kind==1)=true/\wd=bg)∨((tk.kind==1)=false/\false=bg):=by
  revert an
  cases tk.kind==1<;>simp
 by_cases q:m.err=0
 rotate_left
 .have q':(m.err==0)=false:=by simpa using q
  rw[if_neg q]at hinv
  rw[q']at aa
  have aq:X.1=false:=by rw[<-hinv]
  have ar:X.2.1=l:=by rw[<-hinv]
  have au:X.2.2=m:=by rw[<-hinv]
  rw[if_neg (by rw[aq];decide),ar,au]at hM
  refine zA ?_
  simp[go_sem]
  refine pR ad ?_
  simp[go_sem,upB]
  refine za7 [(10,0),(12,3)] 1 5 sm kR kR ?_
  simp[go_sem]
  refine key.elim (fun⟨k1,k2⟩=> ?_) (fun⟨k1,k2⟩=> ?_)
  .simp[go_sem,k1]
   refine pD ai ?_
   simp[go_sem,k2]
   refine zw9 aa cB (wA ⟨zC rfl,zC rfl,zC rfl,tV⟩) rfl ?_
   simp[go_sem]
   exact zh0 (st:=⟨3,nm,[],[],l,false,zeroE,[],false,0⟩) hM
  .rw[<-k2]at aa
   simp[go_sem,k1]
   refine zw9 aa cB (wA ⟨zC rfl,zC rfl,zC rfl,tV⟩) rfl ?_
   simp[go_sem]
   exact zh0 (st:=⟨3,nm,[],[],l,false,zeroE,[],false,0⟩) hM
 have q':(m.err==0)=true:=by simpa using q
 obtain⟨he,ay,rfl⟩:=ao q
 rw[if_pos q]at hinv
 rw[q']at aa
 generalize yR L m=n1 at ae aj hinv
 obtain⟨af,t1⟩:=n1
 simp only at ae aj hinv
 have ak:=zd8 L hL t1 aj.rin [61]
 have ag:=aj.trans (yA hL [61] aj.rin)
 generalize zY L [61] t1=t2 at ak ag hinv
 have hx:=ex_w L hL t2 ag.rin (ag.opn.trans al)
 have ab:=ag.trans (zL0 hL ag.rin (ag.opn.trans al))
 generalize exF L t2=x at hx ab hinv
 obtain⟨e,t3⟩:=x
 simp only at ab hinv
 by_cases q3:isT L [44] t3=true
 .rw[if_pos q3]at hinv
  refine zA ?_
  simp[go_sem]
  refine pR ad ?_
  simp[go_sem,upB]
  refine za7 [(10,0),(12,3)] 1 5 sm kR kR ?_
  simp[go_sem]
  refine key.elim (fun⟨k1,k2⟩=> ?_) (fun⟨k1,k2⟩=> ?_)
  .simp[go_sem,k1]
   refine pD ai ?_
   simp[go_sem,k2]
   refine zw9 aa cB (wA ⟨zC rfl,zC rfl,zC rfl,tV⟩) rfl ?_
   simp[go_sem]
   refine pR ae ?_
   simp[go_sem]
   refine pR ak ?_
   simp[go_sem]
   refine za4 hx cB rd_1 ?_
   simp[go_sem,GExpr.row_eq]
   refine zG ⟨om,zX rfl⟩ ?_
   simp[go_sem]
   refine pR (xD L hL t3 ab.rin _ q3) ?_
   simp[go_sem]
   refine zH (l++ [⟨af,e⟩],zK t3) ⟨by simp;omega,⟨by simp;omega,ab.trans (yP hL ab.rin q3),by simp only[B0,Bk,show 7 - (l.length+1)=6 - l.length by omega];exact hinv⟩, ?_⟩
   exact aN 4 (by simp[rB,zSt,ltOb,ltC,ltK])
  .rw[<-k2]at aa
   simp[go_sem,k1]
   refine zw9 aa cB (wA ⟨zC rfl,zC rfl,zC rfl,tV⟩) rfl ?_
   simp[go_sem]
   refine pR ae ?_
   simp[go_sem]
   refine pR ak ?_
   simp[go_sem]
   refine za4 hx cB rd_1 ?_
   simp[go_sem,GExpr.row_eq]
   refine zG ⟨om,zX rfl⟩ ?_
   simp[go_sem]
   refine pR (xD L hL t3 ab.rin _ q3) ?_
   simp[go_sem]
   refine zH (l++ [⟨af,e⟩],zK t3) ⟨by simp;omega,⟨by simp;omega,ab.trans (yP hL ab.rin q3),by simp only[B0,Bk,show 7 - (l.length+1)=6 - l.length by omega];exact hinv⟩, ?_⟩
   exact aN 4 (by simp[rB,zSt,ltOb,ltC,ltK])
 have q3:isT L [44] t3=false:=by simpa using q3
 rw[if_neg (by rw[q3];decide)]at hinv
 have aq:X.1=true:=by rw[<-hinv]
 have ar:X.2.1=l++ [⟨af,e⟩]:=by rw[<-hinv]
 have au:X.2.2=t3:=by rw[<-hinv]
 rw[if_pos aq,ar,au]at hM
 obtain⟨gw,hw⟩:=yi3 L hL t3 ab.rin (ab.opn.trans al) [zSt,.box [.int .i64 3,.str nm,.sl .full [],.sl .full [],.sl (.app 3) (l.map GAssign.row++ [[.str af,.int .i64 e.kind,.str e.s,.int .i64 e.v.kind,.int .i64 e.v.n,.str e.v.s,.sl .ro (e.args.map GExpr.row)]]),.bool false,.int .i64 0,.str [],.int .i64 0,.int .i64 0,.str [],.sl .full [],.str [],.bool false,.int .i64 0],
  .app (l.length+1) 7,.box [.int .i64 tk.kind,.int .i64 tk.place,.str tk.s,.int .i64 tk.n],.box [.str af,.int .i64 e.kind,.str e.s,.int .i64 e.v.kind,.int .i64 e.v.n,.str e.v.s,.sl .ro (e.args.map GExpr.row)]] 1 _ _ _ _ _ _ _ _ rfl
 generalize whS L t3=s9 at hw hM
 generalize whE L t3=w9 at hw hM
 have hr:=fun τ=>zh0 (L:=L) (g1:= .full) (g2:= .full) (g3:= .app 3) (g4:=gw) (τ:=τ) (st:=⟨3,nm,[],[],l++ [⟨af,e⟩],w9.1,w9.2,[],false,0⟩) hM
 simp at hr
 refine zA ?_
 simp[go_sem]
 refine pR ad ?_
 simp[go_sem,upB]
 refine za7 [(10,0),(12,3)] 1 5 sm kR kR ?_
 simp[go_sem]
 refine key.elim (fun⟨k1,k2⟩=> ?_) (fun⟨k1,k2⟩=> ?_)
 .simp[go_sem,k1]
  refine pD ai ?_
  simp[go_sem,k2]
  refine zw9 aa cB (wA ⟨zC rfl,zC rfl,zC rfl,tV⟩) rfl ?_
  simp[go_sem]
  refine pR ae ?_
  simp[go_sem]
  refine pR ak ?_
  simp[go_sem]
  refine za4 hx cB rd_1 ?_
  simp[go_sem,GExpr.row_eq]
  refine zG ⟨om,zX rfl⟩ ?_
  simp[go_sem]
  refine pR (wK L hL t3 ab.rin _ q3) ?_
  simp[go_sem]
  refine zC0 hw cB ?_
  rintro r σ ⟨rfl,rfl⟩ _
  simp[go_sem]
  exact hr _
 .rw[<-k2]at aa
  simp[go_sem,k1]
  refine zw9 aa cB (wA ⟨zC rfl,zC rfl,zC rfl,tV⟩) rfl ?_
  simp[go_sem]
  refine pR ae ?_
  simp[go_sem]
  refine pR ak ?_
  simp[go_sem]
  refine za4 hx cB rd_1 ?_
  simp[go_sem,GExpr.row_eq]
  refine zG ⟨om,zX rfl⟩ ?_
  simp[go_sem]
  refine pR (wK L hL t3 ab.rin _ q3) ?_
  simp[go_sem]
  refine zC0 hw cB ?_
  rintro r σ ⟨rfl,rfl⟩ _
  simp[go_sem]
  exact hr _
def zM1 (c:UInt8):Bool:=decide (c.toNat=9)||(decide (c.toNat=10)||(decide (c.toNat=13)||decide (c.toNat=32)))
theorem yh4 (c:UInt8) (n:Nat):(((c.toNat:Nat):Int)==(n:Int))=decide (c.toNat=n):=by
 rw[Dn]
 simp only[beq_iff_eq,decide_eq_true_eq]
 omega
theorem yR3 (c:UInt8):Pure prog 133 [.int .u8 c.toNat] (.bool (zM1 c)):=by
 generalize hM:zM1 c=M
 unfold zM1 at hM
 have h9:=yh4 c 9
 have aa:=yh4 c 10
 have ab:=yh4 c 13
 have ad:=yh4 c 32
 simp only[Cj]at h9 aa ab ad
 have ret: ∀(r:Bool) (τ:St),r=M->wret (some (.bool r)) 0 (fun r σ=>r= .bool M/\σ= []) τ:=fun r τ h=>by subst h;exact wR
 refine iW 0 func133 ntmps133 results133 fun c hc hb=>zJ ?_
 simp[go_sem]
 repeat' (first
  |(refine yW (fun q=> ?_) (fun q=> ?_)<;>simp[go_sem,q])
  |(refine zR (fun q=> ?_) (fun q=> ?_)<;>simp[go_sem,q]))
 all_goals exact ret _ _ (by rw[<-hM];simp_all)
abbrev TR:=GToken×Nat×Int
def trV (x:TR):V:= .tup [.agg x.1.row,.int .i64 x.2.1,.int .i64 x.2.2]
theorem yy9 (x:TR):noS (trV x)=true:=rfl
theorem zd4 {t:GToken} {n:Nat} {e:Int} {M:TR} (h:(t,n,e)=M):wret (some (.tup [.agg [.int .i64 t.kind,.int .i64 t.place,.str t.s,.int .i64 t.n],.int .i64 n,.int .i64 e])) 0 (fun r σ=>r=trV M/\σ= []) τ:=by
 subst h
 exact wR
def numL (v:Int):List UInt8->Option Int
 | []=>some v
 |c::l=>if wJ c=true then(if(9223372036854775807 - ((c.toNat:Int) - 48))/10<v then none else numL (v*10+((c.toNat:Int) - 48)) l)else some v
def numT (at_:Nat) (l:List UInt8):TR:=
 match numL 0 l with
 |none=>(zm9,0,5)
 |some v=>if za6 ((l.dropWhile wJ).headD 0)=true then(zm9,0,13)else(⟨2,0,[],v⟩,at_+(l.takeWhile wJ).length,0)
theorem yb8 {c:UInt8} (h:wJ c=true):48<=c.toNat/\c.toNat<=57:=by unfold wJ at h;simpa using h
theorem yI5 (s:List UInt8) (hl:s.length<=maxLen) (a:Nat) (ha:a<=s.length):Pure prog 206 [.str s,.int .i64 a] (trV (numT a (s.drop a))):=by
 generalize hM:numT a (s.drop a)=M
 unfold numT at hM
 unfold maxLen at hl
 have ae:za6 0=false:=dc
 refine iV 0 func206 ntmps206 results206 fun c hc hb=> ?_
 refine zA ?_
 simp[go_sem]
 refine zI (S:=Nat×Int) [0,1,4,7] (fun u=> [.str s,.int .i64 u.1,.ptr 0 0,.int .i64 u.2]) (fun _=> [.box [.int .i64 0,.int .i64 0,.str [],.int .i64 0]]) (fun u=>s.length - u.1)
  (fun u=>u.1<=s.length/\0<=u.2/\u.2<=9223372036854775807/\(match numL u.2 (s.drop u.1)with|none=>(zm9,0,5)|some v=>if za6 (((s.drop u.1).dropWhile wJ).headD 0)=true then(zm9,0,13)else((⟨2,0,[],v⟩,u.1+((s.drop u.1).takeWhile wJ).length,0):TR))=M) hc hb (a,0) ⟨ha,Int.le_refl _,sm,hM⟩ ?_ ?_
 .exact aN 1 (by rfl)
 rintro⟨i,v⟩ ⟨hi,af,ag,hinv⟩
 simp only at hi af ag hinv
 by_cases q:i<s.length
 rotate_left
 .obtain rfl:i=s.length:=om
  rw[Cy]at hinv
  have hinv:(⟨⟨2,0,[],v⟩,s.length,0⟩:TR)=M:=by rw[<-hinv];rfl
  refine zA ?_
  simp[go_sem]
  exact zd4 (t:=⟨2,0,[],v⟩) hinv
 have ei:=zS q om
 obtain⟨x,hx⟩:=eX (s[i])
 rw[Aa q,hx]at hinv
 have aa:=zw5 x
 have ab:=zy5 x
 by_cases qd:wJ x=true
 rotate_left
 .have qd:wJ x=false:=by simpa using qd
  rw[numL,if_neg (by rw[qd];decide),List.dropWhile_cons_of_neg (by rw[qd];decide),List.takeWhile_cons_of_neg (by rw[qd];decide)]at hinv
  simp only[List.headD_cons,Db,Ch]at hinv
  rw[qd]at aa
  by_cases ql:za6 x=true
  .simp only[ql,if_true]at hinv
   rw[ql]at ab
   refine zA ?_
   simp[go_sem,q,hx]
   refine pC aa ?_
   simp[go_sem,q,hx]
   refine pC ab ?_
   simp[go_sem]
   exact zd4 (t:=zm9) hinv
  .have ql:za6 x=false:=by simpa using ql
   simp only[ql,Br,if_false]at hinv
   rw[ql]at ab
   refine zA ?_
   simp[go_sem,q,hx]
   refine pC aa ?_
   simp[go_sem,q,hx]
   refine pC ab ?_
   simp[go_sem]
   exact zd4 (t:=⟨2,0,[],v⟩) hinv
 have hr:=yb8 qd
 rw[numL,if_pos qd,List.dropWhile_cons_of_pos qd,Dt qd]at hinv
 rw[qd]at aa
 have e1:IntKind.u8.wrap ((x.toNat:Int) - 48)=(x.toNat:Int) - 48:=yz1 om om
 have e2:IntKind.i64.wrap ((x.toNat:Int) - 48)=(x.toNat:Int) - 48:=i64_id om om
 have e3:IntKind.i64.wrap (9223372036854775807 - ((x.toNat:Int) - 48))=9223372036854775807 - ((x.toNat:Int) - 48):=i64_id om om
 obtain⟨d,hd⟩: ∃d:Int,(x.toNat:Int) - 48=d:=⟨_,rfl⟩
 rw[hd]at hinv e1 e2 e3
 have ah:0<=d/\d<=9:=om
 have e4:IntKind.i64.wrap ((9223372036854775807 - d).tdiv 10)=(9223372036854775807 - d)/10:=by
  rw[Int.tdiv_eq_ediv_of_nonneg om,i64_id om om]
 refine zA ?_
 simp[go_sem,q,hx]
 refine pC aa ?_
 simp[go_sem,q,hx,e1,e2,e3,e4,hd]
 by_cases qg:(9223372036854775807 - d)/10<v
 .have ad:decide ((9223372036854775807 - d)/10<v)=true:=decide_eq_true qg
  simp only[qg,if_true]at hinv
  simp[go_sem,ad]
  exact zd4 (t:=zm9) hinv
 .have ad:decide ((9223372036854775807 - d)/10<v)=false:=decide_eq_false qg
  simp only[qg,if_false]at hinv
  have e5:IntKind.i64.wrap (v*10)=v*10:=i64_id om om
  have e6:IntKind.i64.wrap (v*10+d)=v*10+d:=i64_id om om
  simp[go_sem,ad,e5,e6,ei]
  refine zH (i+1,v*10+d) ⟨by simp only;omega,⟨by simp only;omega,by simp only;omega,by simp only;omega, ?_⟩, ?_⟩
  .simp only[Al]at hinv
   rw[<-hinv]
   simp only[C1,Eb 1]
  .exact aN 1 (by rfl)
end Go.Proofs.YtefbicjgbaaieaaGreat
