/-
  The document's lexer, over trees (the library Vx); used by the theorem at the end of the claim.
  Conditions: as each theorem states them.
-/
import Derived.Test.YtefbicjgbaaieaaGreatKAL
set_option maxHeartbeats 8000000
namespace Go.Proofs.YtefbicjgbaaieaaGreat
open Go Go.Vx Go.Proofs.Tryz
set_option maxRecDepth 100000
theorem yF0 {x:GExpr} (h:Wide x): ∀e∈ [x],Wide e:=fun e he=>by
 simp only[Ae,Be,or_false]at he
 subst he
 exact h
theorem we4 {x y:GExpr} (h:Wide x) (h2:Wide y): ∀e∈ [x,y],Wide e:=fun e he=>by
 simp only[Ae,Be,or_false]at he
 rcases he with rfl|rfl
 .exact h
 .exact h2
theorem wg8 (L:List GToken) (hL:LIn L) (rec:Nat->RS->PR) (s:RS) (hs:RIn L s) (h2:s.opn<=200) (aj:s.opn+1<=200->PW L rec (s.opn+1)):
  VCalls prog 355 [.ptr 0 0] [rB L s] (RR L (ze5 L (zg3 L rec 2) s)):=by
 have hr:=zP5 L hL s hs om
 have aa:=zk4 hs h2
 have ad:=zb3 (L:=L) s
 have ak:=zf8 (L:=L) (s:=s)
 have ho:=hs.opn
 have hM:ze5 L (zg3 L rec 2) s=if(yR L s).err=0 then((notK L (rec 2) (rec 3) (yR L s)).1,outF (notK L (rec 2) (rec 3) (yR L s)).2)else(zeroE,outF (yR L s)):=rfl
 generalize ze5 L (zg3 L rec 2) s=M at hM⊢
 generalize yR L s=s1 at hr aa ad ak hM
 have eo:=zE4 (o:=s1.opn) om om
 refine iW 1 func355 ntmps355 results355 fun c hc hb=>zL ?_
 by_cases q1:s1.err=0
 rotate_left
 .have ag:(s1.err==0)=false:=by simpa using q1
  rw[if_neg q1]at hM
  rw[ag]at hr
  simp[go_sem]
  refine pR hr ?_
  simp[go_sem,rB,eo]
  exact zz4 (e:=zeroE) (s:=outF s1) hM
 have ag:(s1.err==0)=true:=by simpa using q1
 rw[if_pos q1]at hM
 rw[ag]at hr
 have hP:=aj (ak q1).2
 have af:=zr6 L hL s1 aa
 have ab:=ye8 L hL s1 aa wNOT
 unfold notK at hM
 unfold eatF at ab
 by_cases q:isT L wNOT s1=true
 .rw[if_pos q]at hM
  rw[if_pos q,q]at ab
  have al:=aa.next hL q
  have hy:=hP.ok 2 (zM s1) al ad
  have ae:=hP.not (zM s1) al ad
  generalize rec 2 (zM s1)=y at hy ae hM
  have ah:=op_w L y.2 (tokF L s1).place wNOT [y.1] sm (yF0 hy.wide) (fun he=>by
   have h1:=(hy.err he).2
   simp only[xZ]
   omega)
  have an:(opF (tokF L s1).place wNOT [y.1] y.2).2.opn=s1.opn:=by
   show(opS _ _ _ y.2).opn=_
   rw[yc4,hy.opn];rfl
  generalize opF (tokF L s1).place wNOT [y.1] y.2=z at ah hM an
  have ai:IntKind.i64.wrap (z.2.opn - 1)=z.2.opn - 1:=by rw[an];exact eo
  simp only[Aj,Bx,GExpr.row_eq]at ah
  simp[go_sem]
  refine pR hr ?_
  simp[go_sem]
  refine pR af ?_
  simp[go_sem]
  refine pR ab ?_
  simp[go_sem]
  refine za0 ae cB rd_1 ?_
  simp[go_sem,GExpr.row_eq]
  refine za0 ah cB (wA ⟨zC rfl,zC rfl,zK,tV⟩) ?_
  simp[go_sem,rB,GExpr.row_eq,ai]
  exact xY (s:=outF z.2) hM
 .have q:isT L wNOT s1=false:=by simpa using q
  rw[if_neg (by rw[q];decide)]at hM
  rw[if_neg (by rw[q];decide),q]at ab
  have hy:=hP.ok 3 s1 aa ad
  have ae:=hP.cmp s1 aa ad
  generalize rec 3 s1=z at hy ae hM
  have ai:IntKind.i64.wrap (z.2.opn - 1)=z.2.opn - 1:=by rw[hy.opn];exact eo
  simp[go_sem]
  refine pR hr ?_
  simp[go_sem]
  refine pR af ?_
  simp[go_sem]
  refine pR ab ?_
  simp[go_sem]
  refine za0 ae cB rd_1 ?_
  simp[go_sem,rB,GExpr.row_eq,ai]
  exact xY (s:=outF z.2) hM
theorem xt9 (L:List GToken) (s:RS) (w:List UInt8) (ws:List (List UInt8)) (h:isT L w s=true):anyF L s (w::ws)=w:=by unfold anyF;rw[if_pos h]
theorem xl0 (L:List GToken) (s:RS) (w:List UInt8) (ws:List (List UInt8)) (h:isT L w s=false):anyF L s (w::ws)=anyF L s ws:=by unfold anyF;rw[if_neg (by rw[h];decide)];cases ws<;>rfl
theorem xr1: ∀w∈signsC,w≠ []:=dC
theorem wf7 (L:List GToken) (hL:LIn L) (rec:Nat->RS->PR) (s:RS) (hs:RIn L s) (h2:s.opn<=200) (ax:s.opn+1<=200->PW L rec (s.opn+1)):
  VCalls prog 364 [.ptr 0 0] [rB L s] (RR L (ze5 L (zg3 L rec 3) s)):=by
 have hr:=zP5 L hL s hs om
 have ah:=zk4 hs h2
 have ai:=zb3 (L:=L) s
 have ay:=zf8 (L:=L) (s:=s)
 have ho:=hs.opn
 have hM:ze5 L (zg3 L rec 3) s=if(yR L s).err=0 then((cmpJ L (rec 4) (rec 4 (yR L s))).1,outF (cmpJ L (rec 4) (rec 4 (yR L s))).2)else(zeroE,outF (yR L s)):=rfl
 generalize ze5 L (zg3 L rec 3) s=M at hM⊢
 generalize yR L s=s1 at hr ah ai ay hM
 have eo:=zE4 (o:=s1.opn) om om
 refine iV 1 func364 ntmps364 results364 fun c hc hb=> ?_
 by_cases q1:s1.err=0
 rotate_left
 .have av:(s1.err==0)=false:=by simpa using q1
  rw[if_neg q1]at hM
  rw[av]at hr
  refine zA ?_
  simp[go_sem]
  refine pR hr ?_
  simp[go_sem,rB,eo]
  exact zz4 (e:=zeroE) (s:=outF s1) hM
 have av:(s1.err==0)=true:=by simpa using q1
 rw[if_pos q1]at hM
 rw[av]at hr
 have hP:=ax (ay q1).2
 have hx:=hP.ok 4 s1 ah ai
 have ar:=hP.sum s1 ah ai
 generalize rec 4 s1=x at hx ar hM
 have aj:=zr6 L hL x.2 hx.rin
 have aa:=ye8 L hL x.2 hx.rin wIS
 have af:=hx.opn
 unfold cmpJ at hM
 unfold eatF at aa
 by_cases q:isT L wIS x.2=true
 .rw[if_pos q]at hM
  rw[if_pos q,q]at aa
  have ag:=hx.rin.next hL q
  have ab:=ye8 L hL (zM x.2) ag wNOT
  unfold eatF at ab
  by_cases q2:isT L wNOT (zM x.2)=true
  .rw[if_pos q2]at hM
   rw[if_pos q2,q2]at ab
   have a7:=ag.next hL q2
   have ak:=zd6 L hL _ a7 zr8
   have al:=zp1 (L:=L) zr8 (zM (zM x.2))
   have an:=zi3 (L:=L) (w:=zr8) (s:=zM (zM x.2))
   generalize yB L zr8 (zM (zM x.2))=u at ak al an hM
   have aw:u.opn=s1.opn:=by rw[al];exact af
   have ae:IntKind.i64.wrap (u.opn - 1)=u.opn - 1:=by rw[aw];exact eo
   have ad:=op_w L (outF u) (tokF L x.2).place zT9 [x.1] sm (yF0 hx.wide) (fun he=>by
    have h1:=(hx.err (an he).1).2
    simp only[xZ]
    omega)
   have ao:M=opF (tokF L x.2).place zT9 [x.1] (outF u):=by rw[hM];unfold opF;rw[xh1]
   clear hM
   generalize opF (tokF L x.2).place zT9 [x.1] (outF u)=z at ad ao
   simp only[Aj,Bx,GExpr.row_eq]at ad
   refine zA ?_
   simp[go_sem]
   refine pR hr ?_
   simp[go_sem]
   refine za0 ar cB rd_1 ?_
   simp[go_sem,GExpr.row_eq]
   refine pR aj ?_
   simp[go_sem]
   refine pR aa ?_
   simp[go_sem]
   refine pR ab ?_
   simp[go_sem]
   refine pR ak ?_
   simp[go_sem,rB,ae]
   refine za0 (s:=outF u) ad cB (wA ⟨zC rfl,zC rfl,zK,tV⟩) ?_
   simp[go_sem,GExpr.row_eq]
   exact xY ao
  .have q2:isT L wNOT (zM x.2)=false:=by simpa using q2
   rw[if_neg (by rw[q2];decide)]at hM
   rw[if_neg (by rw[q2];decide),q2]at ab
   have ak:=zd6 L hL _ ag zr8
   have al:=zp1 (L:=L) zr8 (zM x.2)
   have an:=zi3 (L:=L) (w:=zr8) (s:=zM x.2)
   generalize yB L zr8 (zM x.2)=u at ak al an hM
   have aw:u.opn=s1.opn:=by rw[al];exact af
   have ae:IntKind.i64.wrap (u.opn - 1)=u.opn - 1:=by rw[aw];exact eo
   have ad:=op_w L (outF u) (tokF L x.2).place yd6 [x.1] sm (yF0 hx.wide) (fun he=>by
    have h1:=(hx.err (an he).1).2
    simp only[xZ]
    omega)
   have ao:M=opF (tokF L x.2).place yd6 [x.1] (outF u):=by rw[hM];unfold opF;rw[xh1]
   clear hM
   generalize opF (tokF L x.2).place yd6 [x.1] (outF u)=z at ad ao
   simp only[Aj,Bx,GExpr.row_eq]at ad
   refine zA ?_
   simp[go_sem]
   refine pR hr ?_
   simp[go_sem]
   refine za0 ar cB rd_1 ?_
   simp[go_sem,GExpr.row_eq]
   refine pR aj ?_
   simp[go_sem]
   refine pR aa ?_
   simp[go_sem]
   refine pR ab ?_
   simp[go_sem]
   refine pR ak ?_
   simp[go_sem,rB,ae]
   refine za0 (s:=outF u) ad cB (wA ⟨zC rfl,zC rfl,zK,tV⟩) ?_
   simp[go_sem,GExpr.row_eq]
   exact xY ao
 have q:isT L wIS x.2=false:=by simpa using q
 rw[if_neg (by rw[q];decide)]at hM
 rw[if_neg (by rw[q];decide),q]at aa
 refine zA ?_
 simp[go_sem]
 refine pR hr ?_
 simp[go_sem]
 refine za0 ar cB rd_1 ?_
 simp[go_sem,GExpr.row_eq]
 refine pR aj ?_
 simp[go_sem]
 refine pR aa ?_
 simp[go_sem]
 refine zH (S:=Nat) [0,2,3,4,5,7] (fun i=> [.ptr 0 0,.ptr 1 0,.ptr 2 0,.int .i64 (tokF L x.2).place,.sl .ro (signsC.map fun w=> [V.str w]),.int .i64 (i:Int)]) (fun _=> [rB L x.2,zB,.box x.1.row]) (fun i=>6 - i) (fun i=>i<=6/\anyF L x.2 (signsC.drop i)=anyF L x.2 signsC) hc hb 0 ⟨A4 _,rfl⟩ ?_ ?_
 .exact at_n 3 (by simp[go_sem,zB,GExpr.row_eq]) rfl (by simp[rB,zB,ltOb,ltC,ltK,GExpr.row_eq]) dC ⟨zg2 (by rfl),zg2 (by rfl),zg2 (by rfl),zC rfl,zK,zC rfl,tV⟩
 rintro i ⟨hi,hinv⟩
 by_cases qi:i<6
 rotate_left
 .obtain rfl:i=6:=om
  have ha:anyF L x.2 signsC= []:=by rw[<-hinv];rfl
  rw[if_pos ha]at hM
  have ae:IntKind.i64.wrap (x.2.opn - 1)=x.2.opn - 1:=by rw[af];exact eo
  refine zA ?_
  simp[go_sem,signsC,rB,ae,GExpr.row_eq]
  exact xY (s:=outF x.2) hM
 have aq:i<signsC.length:=qi
 obtain⟨w,hw⟩:=eX (signsC[i])
 have a8:w∈signsC:=hw▸Aa aq
 have aA:=xr1 w a8
 rw[A8 aq,hw]at hinv
 have aa:=ye8 L hL x.2 hx.rin w
 unfold eatF at aa
 have az:decide ((i:Int)<6)=true:=decide_eq_true om
 have ei:=zQ qi dC
 have au:(signsC.length:Int)=6:=rfl
 by_cases qw:isT L w x.2=true
 rotate_left
 .have qw:isT L w x.2=false:=by simpa using qw
  rw[xl0 L x.2 w _ qw]at hinv
  rw[if_neg (by rw[qw];decide),qw]at aa
  refine zA ?_
  simp[go_sem,au,az,aq,hw]
  refine zI om ?_
  simp[go_sem]
  refine pR aa ?_
  simp[go_sem,ei]
  refine zG (i+1) ⟨om,⟨om,hinv⟩, ?_⟩
  exact at_n 3 (by simp[go_sem,rB,zB,GExpr.row_eq]) rfl (by simp[rB,zB,ltOb,ltC,ltK,GExpr.row_eq]) dC (zF sg rfl)
 rw[xt9 L x.2 w _ qw]at hinv
 rw[if_neg (by rw[<-hinv];exact aA),<-hinv]at hM
 rw[if_pos qw,qw]at aa
 have ag:=hx.rin.next hL qw
 have hy:=hP.ok 4 (zM x.2) ag (by show x.2.opn=_;rw[af,ai])
 have a1:=hP.sum (zM x.2) ag (by show x.2.opn=_;rw[af,ai])
 generalize rec 4 (zM x.2)=y at hy a1 hM
 have ad:=op_w L y.2 (tokF L x.2).place w [x.1,y.1] sm (we4 hx.wide hy.wide) (fun he=>by
   have h1:=(hy.err he).2
   have h2:=(hx.err (hy.err he).1).2
   simp only[xZ]
   omega)
 have a6:(opF (tokF L x.2).place w [x.1,y.1] y.2).2.opn=s1.opn:=by
  show(opS _ _ _ y.2).opn=_
  rw[yc4,hy.opn];exact af
 generalize opF (tokF L x.2).place w [x.1,y.1] y.2=z at ad hM a6
 have ae:IntKind.i64.wrap (z.2.opn - 1)=z.2.opn - 1:=by rw[a6];exact eo
 simp only[Aj,Bx,GExpr.row_eq]at ad
 refine zA ?_
 simp[go_sem,au,az,aq,hw]
 refine zI om ?_
 simp[go_sem]
 refine pR aa ?_
 simp[go_sem]
 refine za5 [(8,3),(10,3)] 1 3 sm kR kR ?_
 simp[go_sem,aq,hw]
 refine zs3 a1 cB rd_1 ?_
 simp[go_sem,GExpr.row_eq]
 refine zs3 ad cB (wA ⟨zC rfl,zC rfl,zK,tV⟩) ?_
 simp[go_sem,rB,GExpr.row_eq,ae]
 exact xY (s:=outF z.2) hM
theorem zT4 (v:GValue):Pure prog 375 [.agg v.row] (.agg (valE v).row):=by
 refine iW 0 func375 ntmps375 results375 fun c hc hb=>zL ?_
 simp[go_sem]
 exact wG (r:= .agg [.int .i64 1,.str [],.int .i64 v.kind,.int .i64 v.n,.str v.s,.sl .ro []]) (zm7 ⟨zT rfl,zT rfl,zT rfl,zT rfl,zT rfl,yJ,tV⟩) ⟨rfl,rfl⟩
theorem xK (L:List GToken) (hL:LIn L) (s:RS) (hs:RIn L s) (w:List UInt8) (h:isT L w s=true):VCalls prog 74 [.ptr 0 0,.str w] [rB L s] (fun r σ=>r= .bool true/\σ= [rB L (zM s)]):=by
 have:=ye8 L hL s hs w
 unfold eatF at this
 rw[if_pos h,h]at this
 exact this
theorem wK (L:List GToken) (hL:LIn L) (s:RS) (hs:RIn L s) (w:List UInt8) (h:isT L w s=false):VCalls prog 74 [.ptr 0 0,.str w] [rB L s] (fun r σ=>r= .bool false/\σ= [rB L s]):=by
 have:=ye8 L hL s hs w
 unfold eatF at this
 rw[if_neg (by rw[h];decide),h]at this
 exact this
theorem xY9 (L:List GToken) (hL:LIn L) (rec:Nat->RS->PR) (s:RS) (hs:RIn L s) (hP:PW L rec s.opn)
  (hex: ∀s',RIn L s'->s'.opn=s.opn->VCalls prog 210 [.ptr 0 0] [rB L s'] (RR L (rec 0 s'))):
  VCalls prog 374 [.ptr 0 0] [rB L s] (RR L (zG9 L (rec 6) (rec 0) s)):=by
 generalize hM:zG9 L (rec 6) (rec 0) s=M
 unfold zG9 at hM
 have ab:=zr6 L hL s hs
 have an:=hs.at_
 have hl:=hL.len
 have ei:IntKind.i64.wrap ((s.at_:Int)+1)=((s.at_+1:Nat):Int):=by rw[i64_id om om];omega
 have ag:=zO8 L hL s hs
 refine iW 1 func374 ntmps374 results374 fun c hc hb=>zL ?_
 by_cases q1:isT L [45] s=true
 .rw[if_pos q1]at hM
  have ak:=xK L hL s hs _ q1
  have ad:=hs.next hL q1
  have hy:=hP.ok 6 (zM s) ad rfl
  have ae:=hP.unary (zM s) ad rfl
  generalize rec 6 (zM s)=y at hy ae hM
  have ah:=op_w L y.2 (tokF L s).place [78,69,71] [y.1] sm (yF0 hy.wide) (fun he=>by
   have h1:=(hy.err he).2
   simp only[xZ]
   omega)
  generalize opF (tokF L s).place [78,69,71] [y.1] y.2=z at ah hM
  simp only[Aj,Bx,GExpr.row_eq]at ah
  simp[go_sem]
  refine pR ab ?_
  simp[go_sem]
  refine pR ak ?_
  simp[go_sem]
  refine za5 [(4,3),(6,3)] 1 3 sm kR kR ?_
  simp[go_sem]
  refine zs3 ae cB rd_1 ?_
  simp[go_sem,GExpr.row_eq]
  refine zs3 ah cB (wA ⟨zC rfl,zC rfl,zK,tV⟩) ?_
  simp[go_sem,GExpr.row_eq]
  exact xY hM.symm
 have q1:isT L [45] s=false:=by simpa using q1
 rw[if_neg (by rw[q1];decide)]at hM
 have af:=wK L hL s hs _ q1
 by_cases q2:isT L [40] s=true
 .rw[if_pos q2]at hM
  have aa:=xK L hL s hs _ q2
  have ad:=hs.next hL q2
  have hy:=hP.ok 0 (zM s) ad rfl
  have ae:=hex (zM s) ad rfl
  generalize rec 0 (zM s)=y at hy ae hM
  have al:=zd6 L hL y.2 hy.rin [41]
  generalize yB L [41] y.2=u at al hM
  simp[go_sem]
  refine pR ab ?_
  simp[go_sem]
  refine pR af ?_
  simp[go_sem]
  refine pR aa ?_
  simp[go_sem]
  refine za0 ae cB rd_1 ?_
  simp[go_sem,GExpr.row_eq]
  refine pR al ?_
  simp[go_sem]
  exact xY hM.symm
 have q2:isT L [40] s=false:=by simpa using q2
 rw[if_neg (by rw[q2];decide)]at hM
 have aa:=wK L hL s hs _ q2
 simp[go_sem]
 refine pR ab ?_
 simp[go_sem]
 refine pR af ?_
 simp[go_sem]
 refine pR aa ?_
 simp[go_sem]
 by_cases q3:isT L [84,82,85,69] s=true
 .rw[if_pos q3]at hM
  have hv:=zT4 ⟨1,1,[]⟩
  simp only[GExpr.row_eq,GValue.row]at hv
  refine pR (xK L hL s hs _ q3) ?_
  simp[go_sem]
  refine pC hv ?_
  simp[go_sem]
  exact xY (e:=valE ⟨1,1,[]⟩) (s:=zM s) hM.symm
 have q3:isT L [84,82,85,69] s=false:=by simpa using q3
 rw[if_neg (by rw[q3];decide)]at hM
 refine pR (wK L hL s hs _ q3) ?_
 simp[go_sem]
 by_cases q4:isT L [70,65,76,83,69] s=true
 .rw[if_pos q4]at hM
  have hv:=zT4 ⟨1,0,[]⟩
  simp only[GExpr.row_eq,GValue.row]at hv
  refine pR (xK L hL s hs _ q4) ?_
  simp[go_sem]
  refine pC hv ?_
  simp[go_sem]
  exact xY (e:=valE ⟨1,0,[]⟩) (s:=zM s) hM.symm
 have q4:isT L [70,65,76,83,69] s=false:=by simpa using q4
 rw[if_neg (by rw[q4];decide)]at hM
 refine pR (wK L hL s hs _ q4) ?_
 simp[go_sem]
 by_cases q5:isT L zr8 s=true
 .rw[if_pos q5]at hM
  have hv:=zT4 ⟨0,0,[]⟩
  simp only[GExpr.row_eq,GValue.row]at hv
  refine pR (xK L hL s hs _ q5) ?_
  simp[go_sem]
  refine pC hv ?_
  simp[go_sem]
  exact xY (e:=valE ⟨0,0,[]⟩) (s:=zM s) hM.symm
 have q5:isT L zr8 s=false:=by simpa using q5
 rw[if_neg (by rw[q5];decide)]at hM
 refine pR (wK L hL s hs _ q5) ?_
 simp[go_sem]
 obtain⟨t,ht⟩:=eX (tokF L s)
 rw[ht]at hM
 rw[ht]
 by_cases q6:t.kind=2
 .rw[if_pos q6]at hM
  have hv:=zT4 ⟨2,t.n,[]⟩
  simp only[GExpr.row_eq,GValue.row]at hv
  have ai:(t.kind==2)=true:=by simpa using q6
  simp[go_sem,ai,rB,ei]
  refine pC hv ?_
  simp[go_sem]
  exact xY (e:=valE ⟨2,t.n,[]⟩) (s:=zM s) hM.symm
 rw[if_neg q6]at hM
 have ai:(t.kind==2)=false:=by simpa using q6
 simp[go_sem,ai]
 by_cases q7:t.kind=3
 .rw[if_pos q7]at hM
  have hv:=zT4 ⟨3,0,t.s⟩
  simp only[GExpr.row_eq,GValue.row]at hv
  have aj:(t.kind==3)=true:=by simpa using q7
  simp[go_sem,aj,rB,ei]
  refine pC hv ?_
  simp[go_sem]
  exact xY (e:=valE ⟨3,0,t.s⟩) (s:=zM s) hM.symm
 rw[if_neg q7]at hM
 have aj:(t.kind==3)=false:=by simpa using q7
 simp[go_sem,aj]
 refine pR ag ?_
 simp[go_sem]
 exact zz4 (e:=namE (yY L s).1) (s:=(yY L s).2) hM.symm
theorem xU1 (L:List GToken) (hL:LIn L) (rec:Nat->RS->PR) (s:RS) (hs:RIn L s) (h2:s.opn<=200) (af:s.opn+1<=200->PW L rec (s.opn+1))
  (hex:s.opn+1<=200-> ∀s',RIn L s'->s'.opn=s.opn+1->VCalls prog 210 [.ptr 0 0] [rB L s'] (RR L (rec 0 s'))):
  VCalls prog 373 [.ptr 0 0] [rB L s] (RR L (ze5 L (zg3 L rec 6) s)):=by
 have hr:=zP5 L hL s hs om
 have aa:=zk4 hs h2
 have ad:=zb3 (L:=L) s
 have ag:=zf8 (L:=L) (s:=s)
 have ho:=hs.opn
 have hM:ze5 L (zg3 L rec 6) s=if(yR L s).err=0 then((zG9 L (rec 6) (rec 0) (yR L s)).1,outF (zG9 L (rec 6) (rec 0) (yR L s)).2)else(zeroE,outF (yR L s)):=rfl
 generalize ze5 L (zg3 L rec 6) s=M at hM⊢
 generalize yR L s=s1 at hr aa ad ag hM
 have eo:=zE4 (o:=s1.opn) om om
 refine iW 1 func373 ntmps373 results373 fun c hc hb=>zL ?_
 by_cases q1:s1.err=0
 rotate_left
 .have ae:(s1.err==0)=false:=by simpa using q1
  rw[if_neg q1]at hM
  rw[ae]at hr
  simp[go_sem]
  refine pR hr ?_
  simp[go_sem,rB,eo]
  exact zz4 (e:=zeroE) (s:=outF s1) hM
 have ae:(s1.err==0)=true:=by simpa using q1
 rw[if_pos q1]at hM
 rw[ae]at hr
 have ab:=(ag q1).2
 have hP:PW L rec s1.opn:=by rw[ad];exact af ab
 have hok:=yG7 hL (hP.ok 6) (hP.ok 0) s1 aa rfl
 have ah:=xY9 L hL rec s1 aa hP (fun s' h1 h2=>hex ab s' h1 (by rw[h2,ad]))
 generalize zG9 L (rec 6) (rec 0) s1=z at hok ah hM
 have ai:IntKind.i64.wrap (z.2.opn - 1)=z.2.opn - 1:=by rw[hok.opn];exact eo
 simp[go_sem]
 refine pR hr ?_
 simp[go_sem]
 refine za0 ah cB rd_1 ?_
 simp[go_sem,rB,GExpr.row_eq,ai]
 exact xY (s:=outF z.2) hM
theorem xd2 (L:List GToken) (s:RS) (x:PR) (aa:VCalls prog 267 [.ptr 0 0,.int .i64 0] [rB L s] (RR L x)):VCalls prog 210 [.ptr 0 0] [rB L s] (RR L x):=by
 refine iW 1 func210 ntmps210 results210 fun c hc hb=>zL ?_
 simp[go_sem]
 refine za0 aa cB (wA ⟨zC rfl,tV⟩) ?_
 simp[go_sem,GExpr.row_eq]
 exact xY rfl
theorem xi6 (L:List GToken) (hL:LIn L): ∀(f:Nat) (o:Int),o<=200->201<=(f:Int)+o->PW L (pF L f) o
 |0,o,h,hf=>by omega
 |f+1,o,h,hf=>by
  have ih: ∀s:RS,s.opn=o->s.opn+1<=200->PW L (pF L f) (s.opn+1):=fun s hs h1=>xi6 L hL f (s.opn+1) h1 (by push_cast at hf;omega)
  have aa: ∀s:RS,s.opn=o->s.opn+1<=200-> ∀s',RIn L s'->s'.opn=s.opn+1->VCalls prog 210 [.ptr 0 0] [rB L s'] (RR L (pF L f 0 s')):=fun s hs h1 s' h2 h3=>xd2 L s' _ ((ih s hs h1).chain 0 (A4 _) s' h2 h3)
  refine⟨fun w s hs ho=>xh4 hL (f+1) w s hs om (by push_cast at hf⊢;omega),fun k hk s hs ho=> ?_,fun s hs ho=> ?_,fun s hs ho=> ?_,fun s hs ho=> ?_,fun s hs ho=> ?_,fun s hs ho=> ?_⟩
  .have hk:k=0∨k=1:=om
   rcases hk with rfl|rfl
   .exact xv2 L hL (pF L f) s hs om (ih s ho)
   .exact xv3 L hL (pF L f) s hs om (ih s ho)
  .exact wg8 L hL (pF L f) s hs om (ih s ho)
  .exact wf7 L hL (pF L f) s hs om (ih s ho)
  .exact wh7 L hL (pF L f) s hs om (ih s ho)
  .exact wd0 L hL (pF L f) s hs om (ih s ho)
  .exact xU1 L hL (pF L f) s hs om (ih s ho) (aa s ho)
def exF (L:List GToken) (s:RS):PR:=pF L 201 0 s
theorem xy2 {L:List GToken} (hL:LIn L) {s:RS} (hs:RIn L s) (ho:s.opn=0):PI L s (exF L s):=xh4 hL 201 0 s hs om om
theorem ex_w (L:List GToken) (hL:LIn L) (s:RS) (hs:RIn L s) (ho:s.opn=0):VCalls prog 210 [.ptr 0 0] [rB L s] (RR L (exF L s)):=
 xd2 L s _ ((xi6 L hL 201 0 dC dC).chain 0 (A4 _) s hs ho)
mutual
def zn7:GExpr->Nat
 | .mk _ _ _ args=>zj2 args+1
def zj2:List GExpr->Nat
 | []=>0
 |e::l=>zn7 e+zj2 l
end
variable {e:GExpr}{w:List UInt8}{o:Int}{n:Int}{τ:St}
theorem zJ5 (e:GExpr):zn7 e=zj2 e.args+1:=by cases e;rw[zn7];rfl
inductive Good:GExpr->Prop
 |mk (e:GExpr) (hk:i64R e.kind) (hs:e.s.length<=1048576) (hv:e.v.ok) (hn:e.v.s.length<=1048576) (ha: ∀x∈e.args,Good x):Good e
theorem Good.str (h:Good e):e.s.length<=1048576:=by cases h;assumption
theorem Good.v (h:Good e):e.v.ok:=by cases h;assumption
theorem Good.sub (h:Good e): ∀x∈e.args,Good x:=by cases h;assumption
theorem yC0:(⟨0,0,[]⟩:GValue).ok:=⟨dC,dC,dC⟩
theorem xO8 (h:0<=n/\n<=9223372036854775807):(⟨2,n,[]⟩:GValue).ok:=⟨by simp only;omega,by simp only;omega,A4 _⟩
theorem xU0 {s:List UInt8} (h:s.length<=1048576):(⟨3,0,s⟩:GValue).ok:=⟨by simp only;omega,by simp only;omega,by simp only[maxLen];omega⟩
theorem xO1 {a:List GExpr} (h:w.length<=1048576) (ha: ∀x∈a,Good x):Good (opE w a):= .mk _ (by show i64R 3;unfold i64R;decide) h yC0 (A4 _) ha
theorem zH9 {v:GValue} (h:v.ok) (h2:v.s.length<=1048576):Good (valE v):= .mk _ (by show i64R 1;unfold i64R;decide) (A4 _) h h2 (fun x hx=>by cases hx)
theorem xz6 (h:w.length<=1048576):Good (namE w):= .mk _ (by show i64R 2;unfold i64R;decide) h yC0 (A4 _) (fun x hx=>by cases hx)
theorem xz4:Good zeroE:= .mk _ (by show i64R 0;unfold i64R;decide) (A4 _) yC0 (A4 _) (fun x hx=>by cases hx)
theorem yA3 {x:GExpr} (h:Good x): ∀e∈ [x],Good e:=fun e he=>by
 simp only[Ae,Be,or_false]at he
 subst he
 exact h
theorem xz5 {x y:GExpr} (h:Good x) (h2:Good y): ∀e∈ [x,y],Good e:=fun e he=>by
 simp only[Ae,Be,or_false]at he
 rcases he with rfl|rfl
 .exact h
 .exact h2
structure LGood (L:List GToken):Prop where
 txt: ∀t∈L,t.s.length<=1048576
 num: ∀t∈L,0<=t.n/\t.n<=9223372036854775807
variable {L:List GToken}
theorem zC0 {s:RS} (hs:RIn L s):tokF L s∈L:=by
 unfold tokF
 rw[A7,A0 hs.at_]
 exact Aa _
theorem xe4 (hG:LGood L) {s:RS} (hs:RIn L s) (h:isT L w s=true):w.length<=1048576:=by
 have:=hG.txt _ (zC0 hs)
 unfold isT at h
 simp only[A6,beq_iff_eq]at h
 rw[<-h.2.2]
 exact this
theorem zi4 (hG:LGood L) {s:RS} (hs:RIn L s):(yY L s).1.length<=1048576:=by
 unfold yY
 split
 .exact hG.txt _ (zC0 hs)
 .exact A4 _
structure PJ (s:RS) (x:PR):Prop where
 good:Good x.1
 size:x.2.err=0->zn7 x.1+s.at_<=x.2.at_
abbrev PK (L:List GToken) (s:RS) (x:PR):Prop:=PI L s x/\PJ s x
theorem xS6 (w:List UInt8) (a:List GExpr):zn7 (opE w a)=zj2 a+1:=zJ5 _
theorem yD6 (x:GExpr):zj2 [x]=zn7 x:=by simp[zj2]
theorem xG3 (x y:GExpr):zj2 [x,y]=zn7 x+zn7 y:=by simp[zj2]
theorem yv5 (h:e.args= []):zn7 e=1:=by rw[zJ5,h];rfl
theorem yp7 {s0 s:RS} (p:Int) {a:List GExpr} (h1:w.length<=1048576) (h2: ∀x∈a,Good x) (h3:s.err=0->zj2 a+1+s0.at_<=s.at_):PJ s0 (opF p w a s):=
 ⟨xO1 h1 h2,fun he=>by
  have h:=yC5 (p:=p) (w:=w) (a:=a) (s:=s) he
  show zn7 (opE w a)+s0.at_<=(opS p w a s).at_
  rw[zO9,xS6]
  exact h3 h.1⟩
theorem yi5 (hL:LIn L) (hG:LGood L) {o:Int} {sub:RS->PR} (ab: ∀s,RIn L s->s.opn=o->PK L s (sub s)) (ws:List (List UInt8)) {s0:RS}: ∀(n:Nat) (x:PR),PK L s0 x->s0.opn=o->PJ s0 (opsF L ws sub n x)
 |0,x,h,_=>h.2
 |n+1,x,h,ho=>by
  have aa:=zL9 hL (fun s h1 h2=>(ab s h1 h2).1) ws 1 x h.1 ho
  unfold opsF
  unfold opsF at aa
  split
  .exact h.2
  rename_i ad
  rw[if_neg ad]at aa
  have hi:=zC8 ad
  have hx:=h.1.opn
  have hy:=ab (zM x.2) (h.1.rin.next hL hi) (by show x.2.opn=o;rw[hx,ho])
  have hl:=xe4 hG h.1.rin hi
  have aa:PI L s0 (opF (tokF L x.2).place (anyF L x.2 ws) [x.1,(sub (zM x.2)).1] (sub (zM x.2)).2):=aa
  refine yi5 hL hG ab ws n _ ⟨aa,yp7 _ hl (xz5 h.2.good hy.2.good) (fun he=> ?_)⟩ ho
  have h1:=hy.2.size he
  have h2:=h.2.size (hy.1.err he).1
  rw[za8]at h1
  rw[xG3]
  omega
theorem wb8 (hL:LIn L) (_hG:LGood L) {rn rc:RS->PR} (h1: ∀s,RIn L s->s.opn=o->PK L s (rn s)) (h2: ∀s,RIn L s->s.opn=o->PK L s (rc s)) (s:RS) (hs:RIn L s) (ho:s.opn=o):PJ s (notK L rn rc s):=by
 unfold notK
 split
 .rename_i hi
  have hy:=h1 (zM s) (hs.next hL hi) ho
  refine yp7 _ dC (yA3 hy.2.good) (fun he=> ?_)
  have h:=hy.2.size he
  rw[za8]at h
  rw[yD6]
  omega
 .exact(h2 s hs ho).2
theorem xZ3 (hL:LIn L) (hG:LGood L) {sub:RS->PR} (aa: ∀s,RIn L s->s.opn=o->PK L s (sub s)) (s:RS) (ho:s.opn=o) (x:PR) (h:PK L s x):PJ s (cmpJ L sub x):=by
 have hx:=h.1.opn
 unfold cmpJ
 split
 .rename_i hi
  split
  .rename_i ad
   refine yp7 _ dC (yA3 h.2.good) (fun he=> ?_)
   have h1:=h.2.size (zi3 he).1
   have h2:=zv6 (L:=L) zr8 (zM (zM x.2))
   simp only[za8]at h2
   rw[yD6]
   omega
  .refine yp7 _ dC (yA3 h.2.good) (fun he=> ?_)
   have h1:=h.2.size (zi3 he).1
   have h2:=zv6 (L:=L) zr8 (zM x.2)
   simp only[za8]at h2
   rw[yD6]
   omega
 .split
  .exact h.2
  rename_i ab
  have hi:=zC8 ab
  have hy:=aa (zM x.2) (h.1.rin.next hL hi) (by show x.2.opn=o;rw[hx,ho])
  have hl:=xe4 hG h.1.rin hi
  refine yp7 _ hl (xz5 h.2.good hy.2.good) (fun he=> ?_)
  have h1:=hy.2.size he
  have h2:=h.2.size (hy.1.err he).1
  rw[za8]at h1
  rw[xG3]
  omega
theorem zK5 {s s2:RS} (ha:e.args= []) (h:Good e) (h2:s2.err=0->s2.at_=s.at_+1):PJ s (e,s2):=⟨h,fun he=>by
 have:=h2 he
 simp only[yv5 ha]
 omega⟩
theorem xL8 (hL:LIn L) (hG:LGood L) {un ex:RS->PR} (h1: ∀s,RIn L s->s.opn=o->PK L s (un s)) (h2: ∀s,RIn L s->s.opn=o->PK L s (ex s)) (s:RS) (hs:RIn L s) (ho:s.opn=o):PJ s (zG9 L un ex s):=by
 have hm:=zC0 hs
 unfold zG9
 split
 .rename_i hi
  have hy:=h1 (zM s) (hs.next hL hi) ho
  refine yp7 _ dC (yA3 hy.2.good) (fun he=> ?_)
  have h:=hy.2.size he
  rw[za8]at h
  rw[yD6]
  omega
 split
 .rename_i hi
  have hy:=h2 (zM s) (hs.next hL hi) ho
  refine⟨hy.2.good,fun he=> ?_⟩
  have h:=hy.2.size (zi3 he).1
  have h3:=zv6 (L:=L) [41] (ex (zM s)).2
  rw[za8]at h
  show zn7 (ex (zM s)).1+s.at_<=(yB L [41] (ex (zM s)).2).at_
  omega
 split
 .exact zK5 rfl (zH9 ⟨dC,dC,dC⟩ (A4 _)) (fun _=>rfl)
 split
 .exact zK5 rfl (zH9 ⟨dC,dC,dC⟩ (A4 _)) (fun _=>rfl)
 split
 .exact zK5 rfl (zH9 yC0 (A4 _)) (fun _=>rfl)
 split
 .exact zK5 rfl (zH9 (xO8 (hG.num _ hm)) (A4 _)) (fun _=>rfl)
 split
 .exact zK5 rfl (zH9 (xU0 (hG.txt _ hm)) (hG.txt _ hm)) (fun _=>rfl)
 .refine zK5 rfl (xz6 (zi4 hG hs)) (fun he=> ?_)
  have hb:=(zW6 he).2
  unfold yY
  rw[if_pos hb]
  rfl
theorem xL9 (hL:LIn L) (hG:LGood L) {rec:Nat->RS->PR} (h: ∀w s,RIn L s->s.opn=o->PK L s (rec w s)): ∀(w:Nat) (s:RS),RIn L s->s.opn=o->PJ s (zg3 L rec w s)
 |0,s,hs,ho=>yi5 hL hG (h 1) _ _ _ (h 1 s hs ho) ho
 |1,s,hs,ho=>yi5 hL hG (h 2) _ _ _ (h 2 s hs ho) ho
 |2,s,hs,ho=>wb8 hL hG (h 2) (h 3) s hs ho
 |3,s,hs,ho=>xZ3 hL hG (h 4) s ho _ (h 4 s hs ho)
 |4,s,hs,ho=>yi5 hL hG (h 5) _ _ _ (h 5 s hs ho) ho
 |5,s,hs,ho=>yi5 hL hG (h 6) _ _ _ (h 6 s hs ho) ho
 |_w+6,s,hs,ho=>xL8 hL hG (h 6) (h 0) s hs ho
theorem xS1 {k:RS->PR} (s:RS) (hk:(yR L s).err=0->PJ (yR L s) (k (yR L s))):PJ s (ze5 L k s):=by
 unfold ze5
 split
 .rename_i he
  have hy:=hk he
  refine⟨hy.good,fun h=> ?_⟩
  have h2:=hy.size h
  rw[zS5]at h2
  exact h2
 .rename_i he
  exact⟨xz4,fun h=>absurd h he⟩
theorem pF_j (hL:LIn L) (hG:LGood L): ∀(f:Nat) (w:Nat) (s:RS),RIn L s->s.opn<=200->201<=(f:Int)+s.opn->PJ s (pF L f w s)
 |0,w,s,hs,h2,hf=>by omega
 |f+1,w,s,hs,h2,hf=>by
  unfold pF
  refine xS1 s (fun he=> ?_)
  have h3:=(zf8 he).2
  exact xL9 hL hG (o:=s.opn+1) (fun w t ht ho=>⟨xh4 hL f w t ht om (by push_cast at hf;omega),pF_j hL hG f w t ht om (by push_cast at hf;omega)⟩) w _ (zk4 hs h2) (zb3 s)
theorem ex_j {L:List GToken} (hL:LIn L) (hG:LGood L) {s:RS} (hs:RIn L s) (ho:s.opn=0):PJ s (exF L s):=pF_j hL hG 201 0 s hs om om
structure UI (L:List GToken) (s s':RS):Prop where
 rin:RIn L s'
 opn:s'.opn=s.opn
 up:s.at_<=s'.at_
 err:s'.err=0->s.err=0
variable {L:List GToken}
theorem UI.refl {s:RS} (h:RIn L s):UI L s s:=⟨h,rfl,A5 _,id⟩
theorem UI.trans {s s2 s3:RS} (h:UI L s s2) (k:UI L s2 s3):UI L s s3:=⟨k.rin,k.opn.trans h.opn,Ax h.up k.up,fun e=>h.err (k.err e)⟩
theorem PI.ui {s:RS} {x:PR} (h:PI L s x):UI L s x.2:=⟨h.rin,h.opn,h.up,fun e=>(h.err e).1⟩
theorem yI (hL:LIn L) (w:List UInt8) {s:RS} (h:RIn L s):UI L s (yB L w s):=⟨zk2 hL h,zp1 w s,zv6 w s,fun e=>(zi3 e).1⟩
theorem zc9 (hL:LIn L) {s:RS} (h:RIn L s):UI L s (yY L s).2:=⟨yN1 hL h,yt8 s,yN2 s,fun e=>(zW6 e).1⟩
theorem yW (hL:LIn L) {s:RS} (h:RIn L s) (hi:isT L w s=true):UI L s (zM s):=⟨h.next hL hi,rfl,by simp[zM],id⟩
theorem xd3 (e p:Int) {s:RS} (h:RIn L s) (he:e≠0):UI L s (za1 e p s):=⟨yf6 h e p,zA7 e p s,by rw[zH5];exact A5 _,fun q=>absurd q (zm3 he)⟩
theorem yW6 (hL:LIn L) {s:RS} (h:RIn L s):UI L s (numF L s).2:=by
 unfold numF
 split
 .rename_i hb
  unfold numB at hb
  simp only[A6,beq_iff_eq]at hb
  exact⟨hL.next h (by rw[hb.2];decide),rfl,by simp[zM],id⟩
 .exact xd3 _ _ h dC
def zf1 (L:List GToken) (n most:Int) (b:Bool) (s:RS):RS:=if s.err=0/\most<=n then za1 (if b=true then 3 else 13) (tokF L s).place s else s
theorem zn3 {most:Int} {b:Bool} {s:RS} (h:RIn L s):UI L s (zf1 L n most b s):=by
 unfold zf1
 split
 .exact xd3 _ _ h (by split<;>decide)
 .exact UI.refl h
theorem zf6 {most:Int} {b:Bool} {s:RS} (h:(zf1 L n most b s).err=0):s.err=0/\n<most/\zf1 L n most b s=s:=by
 unfold zf1 at h⊢
 split at h
 .exact absurd h (zm3 (by split<;>decide))
 .rename_i hc
  rw[if_neg hc]
  refine⟨h, ?_,rfl⟩
  by_cases q:most<=n
  .exact absurd ⟨h,q⟩ hc
  .omega
theorem yh7 (L:List GToken) (hL:LIn L) (s:RS) (hs:RIn L s) (n most:Int) (b:Bool):VCalls prog 72 [.ptr 0 0,.int .i64 n,.int .i64 most,.bool b] [rB L s] (fun r σ=>r= .bool ((zf1 L n most b s).err==0)/\σ= [rB L (zf1 L n most b s)]):=by
 have ht:=zr6 L hL s hs
 have ae:=zH6 L s 3 (tokF L s).place
 have ad:=zH6 L s 13 (tokF L s).place
 have hM:zf1 L n most b s=if s.err=0/\most<=n then(if b=true then za1 3 (tokF L s).place s else za1 13 (tokF L s).place s)else s:=by unfold zf1;cases b<;>rfl
 generalize zf1 L n most b s=M at hM⊢
 have e3:(za1 3 (tokF L s).place s).err≠0:=zm3 dC
 have af:(za1 13 (tokF L s).place s).err≠0:=zm3 dC
 generalize za1 3 (tokF L s).place s=f3 at*
 generalize za1 13 (tokF L s).place s=f13 at*
 refine iW 1 func72 ntmps72 results72 fun c hc hb=>zL ?_
 simp[go_sem,rB]
 by_cases q1:s.err=0
 rotate_left
 .have aa:(s.err==0)=false:=by simpa using q1
  rw[if_neg (fun h=>q1 h.1)]at hM
  simp[go_sem,aa]
  exact xH (L:=L) (s:=s) (zC rfl) ⟨by rw[hM,aa],by rw[hM];rfl⟩
 have aa:(s.err==0)=true:=by simpa using q1
 by_cases q2:most<=n
 rotate_left
 .have ab:decide (most<=n)=false:=decide_eq_false q2
  rw[if_neg (fun h=>q2 h.2)]at hM
  simp[go_sem,aa,ab]
  exact xH (L:=L) (s:=s) (zC rfl) ⟨by rw[hM,aa],by rw[hM];rfl⟩
 have ab:decide (most<=n)=true:=decide_eq_true q2
 rw[if_pos ⟨q1,q2⟩]at hM
 simp[go_sem,aa,ab]
 refine(A9 b).elim (fun q=> ?_) (fun q=> ?_)
 .rw[if_pos q]at hM
  have ag:(f3.err==0)=false:=by simpa using e3
  subst q
  simp[go_sem]
  refine pR ht ?_
  simp[go_sem]
  refine pR ae ?_
  simp[go_sem,rB]
  exact xH (L:=L) (s:=f3) (zC rfl) ⟨by rw[hM],by rw[hM];rfl⟩
 .rw[if_neg (by rw[q];decide)]at hM
  subst q
  simp[go_sem]
  refine pR ht ?_
  simp[go_sem]
  refine pR ad ?_
  simp[go_sem,rB]
  exact xH (L:=L) (s:=f13) (zC rfl) ⟨by rw[hM],by rw[hM];rfl⟩
def zX6:List UInt8:= [67,79,85,78,84]
def wSUM:List UInt8:= [83,85,77]
def yY9:List (List UInt8):= [[45],[40],[78,79,84],[84,82,85,69],[70,65,76,83,69],[78,85,76,76]]
def begF (L:List GToken) (item:Bool) (s:RS):Bool:=
 ((tokF L s).kind==2||((tokF L s).kind==3||((tokF L s).kind==1&&zl0 (tokF L s).s)))||((item&&(isT L zX6 s||isT L wSUM s))|| !(anyF L s yY9== []))
theorem yG8 (L:List GToken) (hL:LIn L) (s:RS) (hs:RIn L s) (item:Bool):VCalls prog 209 [.ptr 0 0,.bool item] [rB L s] (fun r σ=>r= .bool (begF L item s)/\σ= [rB L s]):=by
 have ht:=zr6 L hL s hs
 have h1:=is_w L hL s hs zX6
 have h2:=is_w L hL s hs wSUM
 have h3:=zY1 L hL s hs yY9 dC
 have ab:=hL.txt _ (zC0 hs)
 have hw:=zW8 (tokF L s).s ab
 generalize hM:begF L item s=M
 unfold begF at hM
 generalize isT L zX6 s=c1 at h1 hM
 generalize isT L wSUM s=c2 at h2 hM
 generalize anyF L s yY9=a at h3 hM
 generalize zl0 (tokF L s).s=b at hw hM
 have ad:(a != [])= !a.isEmpty:=by cases a<;>rfl
 have aa:(a== [])=a.isEmpty:=by cases a<;>rfl
 rw[aa]at hM
 have ret: ∀(r:Bool) (τ:St),r=M->wret (some (.bool r)) 1 (fun r σ=>r= .bool M/\σ= [rB L s]) (rB L s::τ):=fun r τ h=>by subst h;exact xH (zC rfl) ⟨rfl,rfl⟩
 refine iW 1 func209 ntmps209 results209 fun c hc hb=>zL ?_
 simp[go_sem]
 refine pR ht ?_
 simp[go_sem]
 repeat' (first
  |(refine xE (fun q=> ?_) (fun q=> ?_)<;>simp[go_sem,q])
  |(refine zR (fun q=> ?_) (fun q=> ?_)<;>simp[go_sem,q])
  |(refine pC hw ?_;simp[go_sem])
  |(refine pR h1 ?_;simp[go_sem])
  |(refine pR h2 ?_;simp[go_sem])
  |(refine pR h3 ?_;simp[go_sem]))
 all_goals exact ret _ _ (by rw[<-hM];simp_all)
variable {L:List GToken}
def zQ0:List UInt8:= [87,72,69,82,69]
def whS (L:List GToken) (s:RS):RS:=if isT L zQ0 s=true then(exF L (zM s)).2 else s
def rowC (e:GExpr):List V:= [.int .i64 e.kind,.str e.s,.int .i64 e.v.kind,.int .i64 e.v.n,.str e.v.s,.sl .ro (e.args.map GExpr.row)]
def whB (L:List GToken) (s:RS) (a b:List V) (o:Ob):Ob:=if isT L zQ0 s=true then .box (a++ [.bool true]++rowC (exF L (zM s)).1++b)else o
theorem zM9 (hL:LIn L) {s:RS} (h:RIn L s) (ho:s.opn=0):UI L s (exF L s).2:=(xy2 hL h ho).ui
theorem yw7 (hL:LIn L) {s:RS} (h:RIn L s) (ho:s.opn=0):UI L s (whS L s):=by
 unfold whS
 split
 .rename_i hi
  exact(yW hL h hi).trans (zM9 hL (h.next hL hi) ho)
 .exact UI.refl h
theorem xV0 (L:List GToken) (hL:LIn L) (s:RS) (hs:RIn L s) (ho:s.opn=0) (τ:St) (j:Nat) (c0 c1 c2 c3 c4 c5 c6 c7 c8 c9 af ag ab ad ae:V) (hj:τ[j]? =some (.box [c0,c1,c2,c3,c4,c5,c6,c7,c8,c9,af,ag,ab,ad,ae])):
  VCalls prog 139 [.ptr 0 0,.ptr (j+1) 0] (rB L s::τ) (fun r σ=>r= .tup []/\σ=rB L (whS L s)::τ.set j (whB L s [c0,c1,c2,c3,c4] [ab,ad,ae] (.box [c0,c1,c2,c3,c4,c5,c6,c7,c8,c9,af,ag,ab,ad,ae]))):=by
 have aj:=(A3.1 hj).1
 have ah:=(A3.1 hj).2
 unfold whS whB
 refine VCalls.intro (τ.length+1) func139 ntmps139 results139 rfl rfl (Ci rfl) fun c hc hb=>zL ?_
 by_cases q:isT L zQ0 s=true
 .rw[if_pos q,if_pos q]
  have aa:=xK L hL s hs _ q
  have ai:=ex_w L hL (zM s) (hs.next hL q) ho
  generalize exF L (zM s)=y at ai⊢
  simp[go_sem]
  refine pR aa ?_
  simp[go_sem]
  refine za0 ai cB rd_1 ?_
  simp[go_sem,GExpr.row_eq,ah,aj]
  refine yl7 ?_ ⟨rfl, ?_⟩
  .simp
  .simp[go_sem,rowC]
 .have q:isT L zQ0 s=false:=by simpa using q
  have aa:=wK L hL s hs _ q
  rw[if_neg (by rw[q];decide),if_neg (by rw[q];decide)]
  simp[go_sem]
  refine pR aa ?_
  simp[go_sem]
  refine yl7 sm ⟨rfl, ?_⟩
  rw[<-ah,List.set_getElem_self]
def zu9 (L:List GToken) (s:RS):GItem×RS:=
 if isT L zX6 s=true then(⟨3,zeroE⟩,yB L [41] (yB L [42] (yB L [40] (zM s))))
 else if isT L wSUM s=true then(⟨4,(exF L (yB L [40] (zM s))).1⟩,yB L [41] (exF L (yB L [40] (zM s))).2)
 else(⟨2,(exF L s).1⟩,(exF L s).2)
def zv0 (L:List GToken):Nat->List GItem->RS->List GItem×RS
 |0,l,s=>(l,s)
 |n+1,l,s=>
  if(zf1 L l.length 6 (begF L true s) s).err=0 then
   (if isT L [44] (zu9 L s).2=true then zv0 L n (l++ [(zu9 L s).1]) (zM (zu9 L s).2)else(l++ [(zu9 L s).1],(zu9 L s).2))
  else(l,zf1 L l.length 6 (begF L true s) s)
def zo9 (L:List GToken) (s:RS):List GItem×RS:=if isT L [42] s=true then([⟨1,zeroE⟩],zM s)else zv0 L 7 [] s
theorem yB3 (hL:LIn L) {s:RS} (h:RIn L s) (ho:s.opn=0):UI L s (zu9 L s).2:=by
 unfold zu9
 split
 .rename_i hi
  have h1:=yW hL h hi
  have h2:=h1.trans (yI hL [40] h1.rin)
  have h3:=h2.trans (yI hL [42] h2.rin)
  exact h3.trans (yI hL [41] h3.rin)
 split
 .rename_i hi
  have h1:=yW hL h hi
  have h2:=h1.trans (yI hL [40] h1.rin)
  have h3:=h2.trans (zM9 hL h2.rin (h2.opn.trans ho))
  exact h3.trans (yI hL [41] h3.rin)
 .exact zM9 hL h ho
theorem xn1 {l:List GItem} {s:RS} {g:Tag} {M:List GItem×RS} (h:(l,s)=M):wret (some (.sl g (l.map GItem.row))) 1 (fun r σ=>r= .sl .ro (M.1.map GItem.row)/\σ= [rB L M.2]) (rB L s::τ):=by
 subst h
 exact xH zK ⟨rfl,rfl⟩
theorem xP0 (L:List GToken) (hL:LIn L) (s0:RS) (al:RIn L s0) (aw:s0.opn=0):VCalls prog 208 [.ptr 0 0] [rB L s0] (fun r σ=>r= .sl .ro ((zo9 L s0).1.map GItem.row)/\σ= [rB L (zo9 L s0).2]):=by
 generalize hM:zo9 L s0=M
 unfold zo9 at hM
 refine iV 1 func208 ntmps208 results208 fun c hc hb=> ?_
 refine zA ?_
 simp[go_sem]
 by_cases q0:isT L [42] s0=true
 .rw[if_pos q0]at hM
  refine pR (xK L hL s0 al _ q0) ?_
  simp[go_sem]
  refine xH (r:= .sl .ro ([(⟨1,zeroE⟩:GItem)].map GItem.row)) ?_ ⟨by rw[<-hM],by rw[<-hM]⟩
  exact zK
 have q0:isT L [42] s0=false:=by simpa using q0
 rw[if_neg (by rw[q0];decide)]at hM
 refine pR (wK L hL s0 al _ q0) ?_
 simp[go_sem]
 refine zi6 3 7 dC sg ?_
 refine zH (S:=List GItem×RS) [0,3] (fun u=> [.ptr 0 0,.sl (.app 1) (u.1.map GItem.row)]) (fun u=> [rB L u.2,.app u.1.length 7]) (fun u=>7 - u.1.length) (fun u=>u.1.length<=6/\UI L s0 u.2/\zv0 L (7 - u.1.length) u.1 u.2=M) hc hb ([],s0) ⟨A4 _,UI.refl al,hM⟩ ?_ ?_
 .exact aN 2 (by simp[rB,ltOb,ltC,ltK])
 rintro⟨l,s⟩ ⟨hl,hu,hinv⟩
 simp only at hl hu hinv
 have hs:=hu.rin
 have ho:=hu.opn.trans aw
 have ae:=yG8 L hL s hs true
 have ab:=yh7 L hL s hs l.length 6 (begF L true s)
 have an:=zf6 (L:=L) (n:=l.length) (most:=6) (b:=begF L true s) (s:=s)
 rw[show 7 - l.length=(6 - l.length)+1 by omega,zv0]at hinv
 generalize begF L true s=bg at ae ab an hinv
 generalize zf1 L l.length 6 bg s=m at ab an hinv
 by_cases q:m.err=0
 rotate_left
 .have q':(m.err==0)=false:=by simpa using q
  rw[if_neg q]at hinv
  rw[q']at ab
  refine zA ?_
  simp[go_sem]
  refine pR ae ?_
  simp[go_sem]
  refine pR ab ?_
  simp[go_sem]
  exact xn1 hinv
 have q':(m.err==0)=true:=by simpa using q
 obtain⟨he,ax,rfl⟩:=an q
 rw[if_pos q]at hinv
 rw[q']at ab
 have ak:=yB3 hL hs ho
 have ad:=hu.trans ak
 generalize hit:zu9 L m=it at hinv ak ad
 unfold zu9 at hit
 have aa: ∀b,isT L [44] it.2=b->VCalls prog 74 [.ptr 0 0,.str [44]] [rB L it.2] (fun r σ=>r= .bool b/\σ= [rB L (if b=true then zM it.2 else it.2)]):=fun b hb=>by
  cases b with
  |true=>exact xK L hL it.2 ad.rin _ hb
  |false=>exact wK L hL it.2 ad.rin _ hb
 by_cases q1:isT L zX6 m=true
 .rw[if_pos q1]at hit
  have ah:=hs.next hL q1
  have ai:=zd6 L hL _ ah [40]
  have af:=zk2 hL (w:= [40]) ah
  generalize yB L [40] (zM m)=u1 at ai af hit
  have ao:=zd6 L hL _ af [42]
  have aq:=zk2 hL (w:= [42]) af
  generalize yB L [42] u1=u2 at ao aq hit
  have aj:=zd6 L hL _ aq [41]
  generalize yB L [41] u2=u3 at aj hit
  subst hit
  simp only at hinv ad aa
  refine zA ?_
  simp[go_sem]
  refine pR ae ?_
  simp[go_sem]
  refine pR ab ?_
  simp[go_sem]
  refine pR (xK L hL m hs _ q1) ?_
  simp[go_sem]
  refine pR ai ?_
  simp[go_sem]
  refine pR ao ?_
  simp[go_sem]
  refine pR aj ?_
  simp[go_sem]
  refine zI ⟨om,zV rfl⟩ ?_
  simp[go_sem]
  refine(A9 (isT L [44] u3)).elim (fun q2=> ?_) (fun q2=> ?_)
  .rw[if_pos q2]at hinv
   refine pR (aa true q2) ?_
   simp[go_sem]
   refine zG (l++ [⟨3,zeroE⟩],zM u3) ⟨by simp;omega,⟨by simp;omega,ad.trans (yW hL ad.rin q2),by simp only[Ak,Bn,show 7 - (l.length+1)=6 - l.length by omega];exact hinv⟩, ?_⟩
   exact aM 2 (by simp[rB,ltOb,ltC,ltK]) (zF (by simp[go_sem]<;>exact⟨rfl,rfl,rfl,rfl,rfl,rfl⟩) rfl)
  .rw[if_neg (by rw[q2];decide)]at hinv
   refine pR (aa false q2) ?_
   simp[go_sem]
   exact xH (L:=L) zK ⟨by rw[<-hinv];simp[GItem.row]<;>exact⟨rfl,rfl,rfl,rfl,rfl,rfl⟩,by rw[<-hinv]⟩
 have q1:isT L zX6 m=false:=by simpa using q1
 rw[if_neg (by rw[q1];decide)]at hit
 by_cases ag:isT L wSUM m=true
 .rw[if_pos ag]at hit
  have ah:=hs.next hL ag
  have ai:=zd6 L hL _ ah [40]
  have af:=zk2 hL (w:= [40]) ah
  have ar:=zp1 (L:=L) [40] (zM m)
  generalize yB L [40] (zM m)=u1 at ai af ar hit
  have au:u1.opn=0:=by rw[ar];exact ho
  have hx:=ex_w L hL u1 af au
  have av:=(xy2 hL af au).rin
  generalize exF L u1=x at hx av hit
  have aj:=zd6 L hL _ av [41]
  generalize yB L [41] x.2=u3 at aj hit
  subst hit
  simp only at hinv ad aa
  refine zA ?_
  simp[go_sem]
  refine pR ae ?_
  simp[go_sem]
  refine pR ab ?_
  simp[go_sem]
  refine pR (wK L hL m hs _ q1) ?_
  simp[go_sem]
  refine pR (xK L hL m hs _ ag) ?_
  simp[go_sem]
  refine pR ai ?_
  simp[go_sem]
  refine za0 hx cB rd_1 ?_
  simp[go_sem,GExpr.row_eq]
  refine pR aj ?_
  simp[go_sem]
  refine zI ⟨om,zV rfl⟩ ?_
  simp[go_sem]
  refine(A9 (isT L [44] u3)).elim (fun q2=> ?_) (fun q2=> ?_)
  .rw[if_pos q2]at hinv
   refine pR (aa true q2) ?_
   simp[go_sem]
   refine zG (l++ [⟨4,x.1⟩],zM u3) ⟨by simp;omega,⟨by simp;omega,ad.trans (yW hL ad.rin q2),by simp only[Ak,Bn,show 7 - (l.length+1)=6 - l.length by omega];exact hinv⟩, ?_⟩
   exact aM 2 (by simp[rB,ltOb,ltC,ltK]) (zF (by simp[go_sem]<;>exact⟨rfl,rfl,rfl,rfl,rfl,rfl⟩) rfl)
  .rw[if_neg (by rw[q2];decide)]at hinv
   refine pR (aa false q2) ?_
   simp[go_sem]
   exact xH (L:=L) zK ⟨by rw[<-hinv];simp[GItem.row]<;>exact⟨rfl,rfl,rfl,rfl,rfl,rfl⟩,by rw[<-hinv]⟩
 have ag:isT L wSUM m=false:=by simpa using ag
 rw[if_neg (by rw[ag];decide)]at hit
 .have hx:=ex_w L hL m hs ho
  generalize exF L m=x at hx hit
  subst hit
  simp only at hinv ad aa
  refine zA ?_
  simp[go_sem]
  refine pR ae ?_
  simp[go_sem]
  refine pR ab ?_
  simp[go_sem]
  refine pR (wK L hL m hs _ q1) ?_
  simp[go_sem]
  refine pR (wK L hL m hs _ ag) ?_
  simp[go_sem]
  refine za0 hx cB rd_1 ?_
  simp[go_sem,GExpr.row_eq]
  refine zI ⟨om,zV rfl⟩ ?_
  simp[go_sem]
  refine(A9 (isT L [44] x.2)).elim (fun q2=> ?_) (fun q2=> ?_)
  .rw[if_pos q2]at hinv
   refine pR (aa true q2) ?_
   simp[go_sem]
   refine zG (l++ [⟨2,x.1⟩],zM x.2) ⟨by simp;omega,⟨by simp;omega,ad.trans (yW hL ad.rin q2),by simp only[Ak,Bn,show 7 - (l.length+1)=6 - l.length by omega];exact hinv⟩, ?_⟩
   exact aM 2 (by simp[rB,ltOb,ltC,ltK]) (zF (by simp[go_sem]<;>exact⟨rfl,rfl,rfl,rfl,rfl,rfl⟩) rfl)
  .rw[if_neg (by rw[q2];decide)]at hinv
   refine pR (aa false q2) ?_
   simp[go_sem]
   exact xH (L:=L) zK ⟨by rw[<-hinv];simp[GItem.row]<;>exact⟨rfl,rfl,rfl,rfl,rfl,rfl⟩,by rw[<-hinv]⟩
variable {L:List GToken}
def whE (L:List GToken) (s:RS):Bool×GExpr:=if isT L zQ0 s=true then(true,(exF L (zM s)).1)else(false,zeroE)
theorem we3 (L:List GToken) (s:RS) (a b:List V): ∃g:Tag,whB L s a b (.box (a++ [.bool false,.int .i64 0,.str [],.int .i64 0,.int .i64 0,.str [],.sl .full []]++b))=
  .box (a++ [.bool (whE L s).1,.int .i64 (whE L s).2.kind,.str (whE L s).2.s,.int .i64 (whE L s).2.v.kind,.int .i64 (whE L s).2.v.n,.str (whE L s).2.v.s,.sl g ((whE L s).2.args.map GExpr.row)]++b):=by
 unfold whB whE
 by_cases q:isT L zQ0 s=true
 .exact⟨.ro,by rw[if_pos q,if_pos q];simp[rowC]⟩
 .exact⟨.full,by rw[if_neg q,if_neg q];rfl⟩
theorem yl6 (L:List GToken) (hL:LIn L) (s:RS) (hs:RIn L s) (ho:s.opn=0) (τ:St) (j:Nat) (c0 c1 c2 c3 c4 aa ab ad:V) (hj:τ[j]? =some (.box [c0,c1,c2,c3,c4,.bool false,.int .i64 0,.str [],.int .i64 0,.int .i64 0,.str [],.sl .full [],aa,ab,ad])):
  ∃g:Tag,VCalls prog 139 [.ptr 0 0,.ptr (j+1) 0] (rB L s::τ) (fun r σ=>r= .tup []/\σ=rB L (whS L s)::τ.set j (.box [c0,c1,c2,c3,c4,.bool (whE L s).1,.int .i64 (whE L s).2.kind,.str (whE L s).2.s,.int .i64 (whE L s).2.v.kind,.int .i64 (whE L s).2.v.n,.str (whE L s).2.v.s,.sl g ((whE L s).2.args.map GExpr.row),aa,ab,ad])):=by
 obtain⟨g,hg⟩:=we3 L s [c0,c1,c2,c3,c4] [aa,ab,ad]
 refine⟨g, ?_⟩
 have:=xV0 L hL s hs ho τ j c0 c1 c2 c3 c4 _ _ _ _ _ _ _ aa ab ad hj
 simp only[Bz,Cs]at hg
 rw[hg]at this
 exact this
def zC4:List UInt8:= [70,82,79,77]
def xa3:List UInt8:= [79,82,68,69,82]
def wBY:List UInt8:= [66,89]
def wASC:List UInt8:= [65,83,67]
def xI7:List UInt8:= [68,69,83,67]
def zF5:List UInt8:= [76,73,77,73,84]
def zI8 (L:List GToken) (s:RS):(List UInt8×Bool)×RS:=
 if isT L xa3 s=true then
  if isT L wASC (yY L (yB L wBY (zM s))).2=true then(((yY L (yB L wBY (zM s))).1,false),zM (yY L (yB L wBY (zM s))).2)
  else if isT L xI7 (yY L (yB L wBY (zM s))).2=true then(((yY L (yB L wBY (zM s))).1,true),zM (yY L (yB L wBY (zM s))).2)
  else(((yY L (yB L wBY (zM s))).1,false),(yY L (yB L wBY (zM s))).2)
 else(([],false),s)
def zI3 (L:List GToken) (s:RS):Int×RS:=if isT L zF5 s=true then numF L (zM s)else(-1,s)
theorem yi6 (hL:LIn L) {s:RS} (h:RIn L s):UI L s (zI8 L s).2:=by
 unfold zI8
 split
 .rename_i hi
  have h1:=yW hL h hi
  have h2:=h1.trans (yI hL wBY h1.rin)
  have h3:=h2.trans (zc9 hL h2.rin)
  split
  .exact h3.trans (yW hL h3.rin ‹_›)
  split
  .exact h3.trans (yW hL h3.rin ‹_›)
  .exact h3
 .exact UI.refl h
theorem yL6 (hL:LIn L) {s:RS} (h:RIn L s):UI L s (zI3 L s).2:=by
 unfold zI3
 split
 .rename_i hi
  have h1:=yW hL h hi
  exact h1.trans (yW6 hL h1.rin)
 .exact UI.refl h
def zk6 (L:List GToken) (s:RS):GStmt×RS:=
 let x:=zo9 L s
 let n:=yY L (yB L zC4 x.2)
 let w:=whE L n.2
 let o:=zI8 L (whS L n.2)
 let l:=zI3 L o.2
 (⟨1,n.1,x.1,[],[],w.1,w.2,o.1.1,o.1.2,l.1⟩,l.2)
theorem ys9 (hL:LIn L): ∀(n:Nat) (l:List GItem) (s:RS),RIn L s->s.opn=0->UI L s (zv0 L n l s).2
 |0,_,_,h,_=>UI.refl h
 |n+1,l,s,h,ho=>by
  unfold zv0
  split
  .rename_i he
   have h1:=yB3 hL h ho
   split
   .have h2:=h1.trans (yW hL h1.rin ‹_›)
    exact h2.trans (ys9 hL n _ _ h2.rin (h2.opn.trans ho))
   .exact h1
  .exact zn3 h
theorem yg6 (hL:LIn L) {s:RS} (h:RIn L s) (ho:s.opn=0):UI L s (zo9 L s).2:=by
 unfold zo9
 split
 .exact yW hL h ‹_›
 .exact ys9 hL 7 [] s h ho
def RT (L:List GToken) (x:GStmt×RS):V->St->Prop:=fun r σ=>r= .agg x.1.row/\σ= [rB L x.2]
theorem zg7 {g1 g2 g3 g4:Tag} {st:GStmt} {s:RS} {M:GStmt×RS} (h:(st,s)=M):
  wret (some (.agg [.int .i64 st.kind,.str st.table,.sl g1 (st.items.map GItem.row),.sl g2 (st.rows.map fun l=> [V.sl .ro (l.map GExpr.row)]),.sl g3 (st.sets.map GAssign.row),.bool st.filtered,.int .i64 st.where_.kind,.str st.where_.s,.int .i64 st.where_.v.kind,.int .i64 st.where_.v.n,.str st.where_.v.s,.sl g4 (st.where_.args.map GExpr.row),.str st.order,.bool st.down,.int .i64 st.limit])) 1 (RT L M) (rB L s::τ):=by
 subst h
 exact xH (L:=L) (r:= .agg st.row) (zm7 ⟨zT rfl,zT rfl,yJ,yJ,yJ,zT rfl,zT rfl,zT rfl,zT rfl,zT rfl,zT rfl,yJ,zT rfl,zT rfl,zT rfl,tV⟩) ⟨rfl,rfl⟩
theorem yi0 (st:GStmt):noS (.agg st.row)=true:=rfl
theorem xr0 (L:List GToken) (hL:LIn L) (s:RS) (hs:RIn L s) (ho:s.opn=0):VCalls prog 135 [.ptr 0 0] [rB L s] (RT L (zk6 L s)):=by
 generalize hM:zk6 L s=M
 unfold zk6 at hM
 have hx:=xP0 L hL s hs ho
 have af:=yg6 hL hs ho
 generalize zo9 L s=x at hx af hM
 obtain⟨xl,s1⟩:=x
 simp only at hx af hM
 have hm:=zd6 L hL s1 af.rin zC4
 have ag:=af.trans (yI hL zC4 af.rin)
 generalize yB L zC4 s1=s2 at hm ag hM
 have hn:=zO8 L hL s2 ag.rin
 have ad:=ag.trans (zc9 hL ag.rin)
 generalize yY L s2=n at hn ad hM
 obtain⟨nm,s3⟩:=n
 simp only at hn ad hM
 obtain⟨gw,hw⟩:=yl6 L hL s3 ad.rin (ad.opn.trans ho) [.box [.int .i64 0,.str [],.sl .full [],.sl .full [],.sl .full [],.bool false,.int .i64 0,.str [],.int .i64 0,.int .i64 0,.str [],.sl .full [],.str [],.bool false,.int .i64 0],.box [.int .i64 1,.str nm,.sl .ro (xl.map GItem.row),.sl .full [],.sl .full [],.bool false,.int .i64 0,.str [],.int .i64 0,.int .i64 0,.str [],.sl .full [],.str [],.bool false,.int .i64 (-1)]] 1 _ _ _ _ _ _ _ _ rfl
 have ae:=ad.trans (yw7 hL ad.rin (ad.opn.trans ho))
 generalize whS L s3=s4 at hw ae hM
 generalize whE L s3=w at hw hM
 obtain⟨wb,we⟩:=w
 simp only[Cg,Dc]at hw hM
 have ah:=yi6 hL ae.rin
 generalize hO:zI8 L s4=o at ah hM
 obtain⟨⟨on,od⟩,s5⟩:=o
 simp only at ah hM
 have aa:=ae.trans ah
 generalize hl:zI3 L s5=l at hM
 obtain⟨ll,s6⟩:=l
 simp only at hM
 unfold zI8 at hO
 unfold zI3 at hl
 refine iW 1 func135 ntmps135 results135 fun c hc hb=>zL ?_
 simp[go_sem]
 refine pR hx ?_
 simp[go_sem]
 refine pR hm ?_
 simp[go_sem]
 refine pR hn ?_
 simp[go_sem]
 refine zu2 hw cB ?_
 rintro r σ ⟨rfl,rfl⟩ _
 simp[go_sem]
 by_cases qO:isT L xa3 s4=true
 rotate_left
 .have qO:isT L xa3 s4=false:=by simpa using qO
  rw[if_neg (by rw[qO];decide)]at hO
  obtain⟨⟨rfl,rfl⟩,rfl⟩:([]=on/\false=od)/\s4=s5:=by simpa using hO
  refine pR (wK L hL s4 ae.rin _ qO) ?_
  simp[go_sem]
  by_cases qL:isT L zF5 s4=true
  .rw[if_pos qL]at hl
   have ab:=yu0 L hL (zM s4) (aa.rin.next hL qL)
   rw[hl]at ab
   refine pR (xK L hL s4 aa.rin _ qL) ?_
   simp[go_sem]
   refine pR ab ?_
   simp[go_sem]
   exact zg7 (st:=⟨1,nm,xl,[],[],wb,we,_,_,ll⟩) hM
  .have qL:isT L zF5 s4=false:=by simpa using qL
   rw[if_neg (by rw[qL];decide)]at hl
   obtain⟨rfl,rfl⟩: -1=ll/\s4=s6:=by simpa using hl
   refine pR (wK L hL s4 aa.rin _ qL) ?_
   simp[go_sem]
   exact zg7 (st:=⟨1,nm,xl,[],[],wb,we,_,_,-1⟩) hM
 rw[if_pos qO]at hO
 have h1:=yW hL ae.rin qO
 have ak:=zd6 L hL _ h1.rin wBY
 have h2:=yI hL wBY h1.rin
 generalize yB L wBY (zM s4)=t1 at ak h2 hO
 have ai:=zO8 L hL _ h2.rin
 have h3:=zc9 hL h2.rin
 generalize yY L t1=n2 at ai h3 hO
 obtain⟨aj,t2⟩:=n2
 simp only at ai h3 hO
 refine pR (xK L hL s4 ae.rin _ qO) ?_
 simp[go_sem]
 refine pR ak ?_
 simp[go_sem]
 refine pR ai ?_
 simp[go_sem]
 by_cases qA:isT L wASC t2=true
 .rw[if_pos qA]at hO
  obtain⟨⟨rfl,rfl⟩,rfl⟩:(aj=on/\false=od)/\zM t2=s5:=by simpa using hO
  refine pR (xK L hL t2 h3.rin _ qA) ?_
  simp[go_sem]
  by_cases qL:isT L zF5 (zM t2)=true
  .rw[if_pos qL]at hl
   have ab:=yu0 L hL (zM (zM t2)) (aa.rin.next hL qL)
   rw[hl]at ab
   refine pR (xK L hL (zM t2) aa.rin _ qL) ?_
   simp[go_sem]
   refine pR ab ?_
   simp[go_sem]
   exact zg7 (st:=⟨1,nm,xl,[],[],wb,we,_,_,ll⟩) hM
  .have qL:isT L zF5 (zM t2)=false:=by simpa using qL
   rw[if_neg (by rw[qL];decide)]at hl
   obtain⟨rfl,rfl⟩: -1=ll/\(zM t2)=s6:=by simpa using hl
   refine pR (wK L hL (zM t2) aa.rin _ qL) ?_
   simp[go_sem]
   exact zg7 (st:=⟨1,nm,xl,[],[],wb,we,_,_,-1⟩) hM
 have qA:isT L wASC t2=false:=by simpa using qA
 rw[if_neg (by rw[qA];decide)]at hO
 refine pR (wK L hL t2 h3.rin _ qA) ?_
 simp[go_sem]
 by_cases qD:isT L xI7 t2=true
 .rw[if_pos qD]at hO
  obtain⟨⟨rfl,rfl⟩,rfl⟩:(aj=on/\true=od)/\zM t2=s5:=by simpa using hO
  refine pR (xK L hL t2 h3.rin _ qD) ?_
  simp[go_sem]
  by_cases qL:isT L zF5 (zM t2)=true
  .rw[if_pos qL]at hl
   have ab:=yu0 L hL (zM (zM t2)) (aa.rin.next hL qL)
   rw[hl]at ab
   refine pR (xK L hL (zM t2) aa.rin _ qL) ?_
   simp[go_sem]
   refine pR ab ?_
   simp[go_sem]
   exact zg7 (st:=⟨1,nm,xl,[],[],wb,we,_,_,ll⟩) hM
  .have qL:isT L zF5 (zM t2)=false:=by simpa using qL
   rw[if_neg (by rw[qL];decide)]at hl
   obtain⟨rfl,rfl⟩: -1=ll/\(zM t2)=s6:=by simpa using hl
   refine pR (wK L hL (zM t2) aa.rin _ qL) ?_
   simp[go_sem]
   exact zg7 (st:=⟨1,nm,xl,[],[],wb,we,_,_,-1⟩) hM
 .have qD:isT L xI7 t2=false:=by simpa using qD
  rw[if_neg (by rw[qD];decide)]at hO
  obtain⟨⟨rfl,rfl⟩,rfl⟩:(aj=on/\false=od)/\t2=s5:=by simpa using hO
  refine pR (wK L hL t2 h3.rin _ qD) ?_
  simp[go_sem]
  by_cases qL:isT L zF5 t2=true
  .rw[if_pos qL]at hl
   have ab:=yu0 L hL (zM t2) (aa.rin.next hL qL)
   rw[hl]at ab
   refine pR (xK L hL t2 aa.rin _ qL) ?_
   simp[go_sem]
   refine pR ab ?_
   simp[go_sem]
   exact zg7 (st:=⟨1,nm,xl,[],[],wb,we,_,_,ll⟩) hM
  .have qL:isT L zF5 t2=false:=by simpa using qL
   rw[if_neg (by rw[qL];decide)]at hl
   obtain⟨rfl,rfl⟩: -1=ll/\t2=s6:=by simpa using hl
   refine pR (wK L hL t2 aa.rin _ qL) ?_
   simp[go_sem]
   exact zg7 (st:=⟨1,nm,xl,[],[],wb,we,_,_,-1⟩) hM
variable {L:List GToken}
def rowL (L:List GToken):Nat->List GExpr->RS->Bool×List GExpr×RS
 |0,l,s=>(false,l,s)
 |n+1,l,s=>
  if(zf1 L l.length 6 (begF L false s) s).err=0 then
   (if isT L [44] (exF L s).2=true then rowL L n (l++ [(exF L s).1]) (zM (exF L s).2)else(true,l++ [(exF L s).1],(exF L s).2))
  else(false,l,zf1 L l.length 6 (begF L false s) s)
def zG5 (L:List GToken):Nat->List (List GExpr)->RS->List (List GExpr)×RS
 |0,R,s=>(R,s)
 |n+1,R,s=>
  if(zf1 L R.length 16 (isT L [40] s) s).err=0 then
   (if(rowL L 7 [] (yB L [40] s)).1=true then
    (if isT L [44] (yB L [41] (rowL L 7 [] (yB L [40] s)).2.2)=true then zG5 L n (R++ [(rowL L 7 [] (yB L [40] s)).2.1]) (zM (yB L [41] (rowL L 7 [] (yB L [40] s)).2.2))
    else(R++ [(rowL L 7 [] (yB L [40] s)).2.1],yB L [41] (rowL L 7 [] (yB L [40] s)).2.2))
   else(R,(rowL L 7 [] (yB L [40] s)).2.2))
  else(R,zf1 L R.length 16 (isT L [40] s) s)
def yl1:List UInt8:= [73,78,84,79]
def zM3:List UInt8:= [86,65,76,85,69,83]
def zj9 (L:List GToken) (s:RS):GStmt×RS:=
 let n:=yY L (yB L yl1 s)
 let r:=zG5 L 17 [] (yB L zM3 n.2)
 (⟨2,n.1,[],r.1,[],false,zeroE,[],false,0⟩,r.2)
theorem yD3 (hL:LIn L): ∀(n:Nat) (l:List GExpr) (s:RS),RIn L s->s.opn=0->UI L s (rowL L n l s).2.2
 |0,_,_,h,_=>UI.refl h
 |n+1,l,s,h,ho=>by
  unfold rowL
  split
  .have h1:=zM9 hL h ho
   split
   .have h2:=h1.trans (yW hL h1.rin ‹_›)
    exact h2.trans (yD3 hL n _ _ h2.rin (h2.opn.trans ho))
   .exact h1
  .exact zn3 h
theorem yP6 (hL:LIn L): ∀(n:Nat) (R:List (List GExpr)) (s:RS),RIn L s->s.opn=0->UI L s (zG5 L n R s).2
 |0,_,_,h,_=>UI.refl h
 |n+1,R,s,h,ho=>by
  unfold zG5
  split
  .have h1:=yI hL [40] h
   have h2:=h1.trans (yD3 hL 7 [] _ h1.rin (h1.opn.trans ho))
   split
   .have h3:=h2.trans (yI hL [41] h2.rin)
    split
    .have h4:=h3.trans (yW hL h3.rin ‹_›)
     exact h4.trans (yP6 hL n _ _ h4.rin (h4.opn.trans ho))
    .exact h3
   .exact h2
  .exact zn3 h
theorem yV1 (hL:LIn L) {s:RS} (h:RIn L s) (ho:s.opn=0):UI L s (zj9 L s).2:=by
 unfold zj9
 have h1:=yI hL yl1 h
 have h2:=h1.trans (zc9 hL h1.rin)
 have h3:=h2.trans (yI hL zM3 h2.rin)
 exact h3.trans (yP6 hL 17 [] _ h3.rin (h3.opn.trans ho))
def inB (nm:List UInt8) (R:List (List GExpr)):Ob:= .box [.int .i64 2,.str nm,.sl .full [],.sl (.app 3) (R.map fun l=> [V.sl .ro (l.map GExpr.row)]),.sl .full [],.bool false,.int .i64 0,.str [],.int .i64 0,.int .i64 0,.str [],.sl .full [],.str [],.bool false,.int .i64 0]
def zSt:Ob:= .box [.int .i64 0,.str [],.sl .full [],.sl .full [],.sl .full [],.bool false,.int .i64 0,.str [],.int .i64 0,.int .i64 0,.str [],.sl .full [],.str [],.bool false,.int .i64 0]
theorem xm9 (L:List GToken) (hL:LIn L) (s0:RS) (au:RIn L s0) (av:s0.opn=0):VCalls prog 136 [.ptr 0 0] [rB L s0] (RT L (zj9 L s0)):=by
 generalize hM:zj9 L s0=M
 unfold zj9 at hM
 have aw:=zd6 L hL s0 au yl1
 have ak:=yI hL yl1 au
 generalize yB L yl1 s0=s1 at aw ak hM
 have hn:=zO8 L hL s1 ak.rin
 have ag:=ak.trans (zc9 hL ak.rin)
 generalize yY L s1=n at hn ag hM
 obtain⟨nm,s2⟩:=n
 simp only at hn ag hM
 have ax:=zd6 L hL s2 ag.rin zM3
 have ay:=ag.trans (yI hL zM3 ag.rin)
 generalize yB L zM3 s2=s3 at ax ay hM
 obtain⟨X,hX⟩:=eX (zG5 L 17 [] s3)
 rw[hX]at hM
 have ret: ∀(R:List (List GExpr)) (s:RS) (τ:St),(R,s)=X->wret (some (.agg [.int .i64 2,.str nm,.sl .full [],.sl (.app 3) (R.map fun l=> [V.sl .ro (l.map GExpr.row)]),.sl .full [],.bool false,.int .i64 0,.str [],.int .i64 0,.int .i64 0,.str [],.sl .full [],.str [],.bool false,.int .i64 0])) 1 (RT L M) (rB L s::τ):=fun R s τ h=>by
  subst h
  exact zg7 (st:=⟨2,nm,[],R,[],false,zeroE,[],false,0⟩) hM
 refine iV 1 func136 ntmps136 results136 fun c hc hb=> ?_
 refine zA ?_
 simp[go_sem]
 refine pR aw ?_
 simp[go_sem]
 refine pR hn ?_
 simp[go_sem]
 refine pR ax ?_
 simp[go_sem]
 refine zK0 2 3 1 _ dC rfl rfl ?_
 simp only[Cg,Dc]
 refine zH (S:=List (List GExpr)×RS) [0,2,3] (fun u=> [.ptr 0 0,.ptr 1 0,.ptr 2 0]) (fun u=> [rB L u.2,zSt,inB nm u.1,.app u.1.length 1]) (fun u=>17 - u.1.length) (fun u=>u.1.length<=16/\UI L s0 u.2/\zG5 L (17 - u.1.length) u.1 u.2=X) hc hb ([],s3) ⟨A4 _,ay,hX⟩ ?_ ?_
 .exact at_n 4 (by simp[go_sem];exact⟨rfl,rfl⟩) rfl (by simp[rB,zSt,inB,ltOb,ltC,ltK]) dC (zF sg rfl)
 rintro⟨R,s⟩ ⟨hR,hu,hinv⟩
 simp only at hR hu hinv
 have hs:=hu.rin
 have ho:=hu.opn.trans av
 have ah:=is_w L hL s hs [40]
 have ad:=yh7 L hL s hs R.length 16 (isT L [40] s)
 have an:=zf6 (L:=L) (n:=R.length) (most:=16) (b:=isT L [40] s) (s:=s)
 rw[show 17 - R.length=(16 - R.length)+1 by omega,zG5]at hinv
 generalize isT L [40] s=bg at ah ad an hinv
 generalize zf1 L R.length 16 bg s=m at ad an hinv
 by_cases q:m.err=0
 rotate_left
 .have q':(m.err==0)=false:=by simpa using q
  rw[if_neg q]at hinv
  rw[q']at ad
  refine zA ?_
  simp[go_sem]
  refine za5 [(5,3),(6,3)] 1 4 sm kR kR ?_
  simp[go_sem,inB]
  refine zw6 ah cB (wA ⟨zC rfl,tV⟩) rfl ?_
  simp[go_sem]
  refine zw6 ad cB (wA ⟨zC rfl,zC rfl,zC rfl,tV⟩) rfl ?_
  simp[go_sem]
  exact ret _ _ _ hinv
 have q':(m.err==0)=true:=by simpa using q
 obtain⟨he,aC,rfl⟩:=an q
 rw[if_pos q]at hinv
 rw[q']at ad
 have az:=zd6 L hL m hs [40]
 have a1:=hu.trans (yI hL [40] hs)
 generalize yB L [40] m=s4 at az a1 hinv
 obtain⟨Y,hY⟩:=eX (rowL L 7 [] s4)
 rw[hY]at hinv
 refine zA ?_
 simp[go_sem]
 refine za5 [(5,3),(6,3)] 1 4 sm kR kR ?_
 simp[go_sem,inB]
 refine zw6 ah cB (wA ⟨zC rfl,tV⟩) rfl ?_
 simp[go_sem]
 refine zw6 ad cB (wA ⟨zC rfl,zC rfl,zC rfl,tV⟩) rfl ?_
 simp[go_sem]
 refine pR az ?_
 simp[go_sem]
 refine zi6 4 6 dC sg ?_
 refine zH (S:=List GExpr×RS) [0,2,3,4] (fun u=> [.ptr 0 0,.ptr 1 0,.ptr 2 0,.sl (.app 4) (u.1.map GExpr.row)]) (fun u=> [rB L u.2,zSt,inB nm R,.app R.length 1,.app u.1.length 6]) (fun u=>7 - u.1.length) (fun u=>u.1.length<=6/\UI L s0 u.2/\rowL L (7 - u.1.length) u.1 u.2=Y) hc hb ([],s4) ⟨A4 _,a1,hY⟩ ?_ ?_
 .exact at_n 5 (by simp[go_sem];rfl) rfl (by simp[rB,zSt,inB,ltOb,ltC,ltK]) dC (zF sg rfl)
 rintro⟨l,t⟩ ⟨hl,al,aa⟩
 simp only at hl al aa
 have ht:=al.rin
 have a6:=al.opn.trans av
 have ae:=yG8 L hL t ht false
 have ab:=yh7 L hL t ht l.length 6 (begF L false t)
 have ai:=zf6 (L:=L) (n:=l.length) (most:=6) (b:=begF L false t) (s:=t)
 rw[show 7 - l.length=(6 - l.length)+1 by omega,rowL]at aa
 generalize begF L false t=a8 at ae ab ai aa
 generalize zf1 L l.length 6 a8 t=m2 at ab ai aa
 by_cases q2:m2.err=0
 rotate_left
 .have ao:(m2.err==0)=false:=by simpa using q2
  rw[if_neg q2]at aa
  rw[ao]at ab
  have aq:Y.1=false:=by rw[<-aa]
  have ar:Y.2.2=m2:=by rw[<-aa]
  rw[if_neg (by rw[aq];decide),ar]at hinv
  refine zA ?_
  simp[go_sem]
  refine pR ae ?_
  simp[go_sem]
  refine pR ab ?_
  simp[go_sem,inB]
  exact ret _ _ _ hinv
 have ao:(m2.err==0)=true:=by simpa using q2
 obtain⟨aD,aB,rfl⟩:=ai q2
 rw[if_pos q2]at aa
 rw[ao]at ab
 have hx:=ex_w L hL m2 ht a6
 have af:=al.trans (zM9 hL ht a6)
 generalize exF L m2=x at hx af aa
 by_cases q3:isT L [44] x.2=true
 .rw[if_pos q3]at aa
  refine zA ?_
  simp[go_sem]
  refine pR ae ?_
  simp[go_sem]
  refine pR ab ?_
  simp[go_sem]
  refine za0 hx cB rd_1 ?_
  simp[go_sem,GExpr.row_eq]
  refine zI ⟨om,zV rfl⟩ ?_
  simp[go_sem]
  refine pR (xK L hL x.2 af.rin _ q3) ?_
  simp[go_sem]
  refine zG (l++ [x.1],zM x.2) ⟨by simp;omega,⟨by simp;omega,af.trans (yW hL af.rin q3),by simp only[Ak,Bn,show 7 - (l.length+1)=6 - l.length by omega];exact aa⟩, ?_⟩
  exact aM 5 (by simp[rB,zSt,inB,ltOb,ltC,ltK]) (zF (by simp[go_sem,GExpr.row_eq]) rfl)
 have q3:isT L [44] x.2=false:=by simpa using q3
 rw[if_neg (by rw[q3];decide)]at aa
 have aq:Y.1=true:=by rw[<-aa]
 have ar:Y.2.2=x.2:=by rw[<-aa]
 have aA:Y.2.1=l++ [x.1]:=by rw[<-aa]
 rw[if_pos aq,ar,aA]at hinv
 have a7:=zd6 L hL x.2 af.rin [41]
 have aj:=af.trans (yI hL [41] af.rin)
 generalize yB L [41] x.2=s5 at a7 aj hinv
 refine zA ?_
 simp[go_sem]
 refine pR ae ?_
 simp[go_sem]
 refine pR ab ?_
 simp[go_sem]
 refine za0 hx cB rd_1 ?_
 simp[go_sem,GExpr.row_eq]
 refine zI ⟨om,zV rfl⟩ ?_
 simp[go_sem]
 refine pR (wK L hL x.2 af.rin _ q3) ?_
 simp[go_sem]
 refine pR a7 ?_
 simp[go_sem,inB]
 refine zI ⟨om,zV rfl⟩ ?_
 simp[go_sem]
 by_cases q5:isT L [44] s5=true
 .rw[if_pos q5]at hinv
  refine pR (xK L hL s5 aj.rin _ q5) ?_
  simp[go_sem]
  refine zG (R++ [l++ [x.1]],zM s5) ⟨by simp;omega,⟨by simp;omega,aj.trans (yW hL aj.rin q5),by simp only[Ak,Bn,show 17 - (R.length+1)=16 - R.length by omega];exact hinv⟩, ?_⟩
  exact at_n 4 (by simp[go_sem,GExpr.row_eq]) rfl (by simp[rB,zSt,ltOb,ltC,ltK]) dC (zF sg rfl)
 .have q5:isT L [44] s5=false:=by simpa using q5
  rw[if_neg (by rw[q5];decide)]at hinv
  refine pR (wK L hL s5 aj.rin _ q5) ?_
  simp[go_sem]
  have hr:=ret (R++ [l++ [x.1]]) s5
  simp[GExpr.row_eq]at hr
  exact hr _ hinv
variable {L:List GToken}
def zW0 (L:List GToken) (s:RS):Bool:=(tokF L s).kind==1&&zl0 (tokF L s).s
def wSET:List UInt8:= [83,69,84]
def zB6 (L:List GToken):Nat->List GAssign->RS->Bool×List GAssign×RS
 |0,l,s=>(false,l,s)
 |n+1,l,s=>
  if(zf1 L l.length 6 (zW0 L s) s).err=0 then
   (if isT L [44] (exF L (yB L [61] (yY L s).2)).2=true then zB6 L n (l++ [⟨(yY L s).1,(exF L (yB L [61] (yY L s).2)).1⟩]) (zM (exF L (yB L [61] (yY L s).2)).2)
   else(true,l++ [⟨(yY L s).1,(exF L (yB L [61] (yY L s).2)).1⟩],(exF L (yB L [61] (yY L s).2)).2))
  else(false,l,zf1 L l.length 6 (zW0 L s) s)
def zk8 (L:List GToken) (s:RS):GStmt×RS:=
 let n:=yY L s
 let r:=zB6 L 7 [] (yB L wSET n.2)
 if r.1=true then(⟨3,n.1,[],[],r.2.1,(whE L r.2.2).1,(whE L r.2.2).2,[],false,0⟩,whS L r.2.2)
 else(⟨3,n.1,[],[],r.2.1,false,zeroE,[],false,0⟩,r.2.2)
theorem yj8 (hL:LIn L): ∀(n:Nat) (l:List GAssign) (s:RS),RIn L s->s.opn=0->UI L s (zB6 L n l s).2.2
 |0,_,_,h,_=>UI.refl h
 |n+1,l,s,h,ho=>by
  unfold zB6
  split
  .have h1:=zc9 hL h
   have h2:=h1.trans (yI hL [61] h1.rin)
   have h3:=h2.trans (zM9 hL h2.rin (h2.opn.trans ho))
   split
   .have h4:=h3.trans (yW hL h3.rin ‹_›)
    exact h4.trans (yj8 hL n _ _ h4.rin (h4.opn.trans ho))
   .exact h3
  .exact zn3 h
theorem xa1 (hL:LIn L) {s:RS} (h:RIn L s) (ho:s.opn=0):UI L s (zk8 L s).2:=by
 unfold zk8
 have h1:=zc9 hL h
 have h2:=h1.trans (yI hL wSET h1.rin)
 have h3:=h2.trans (yj8 hL 7 [] _ h2.rin (h2.opn.trans ho))
 simp only
 split
 .exact h3.trans (yw7 hL h3.rin (h3.opn.trans ho))
 .exact h3
def upB (nm:List UInt8) (l:List GAssign):Ob:= .box [.int .i64 3,.str nm,.sl .full [],.sl .full [],.sl (.app 3) (l.map GAssign.row),.bool false,.int .i64 0,.str [],.int .i64 0,.int .i64 0,.str [],.sl .full [],.str [],.bool false,.int .i64 0]
theorem xs3 (L:List GToken) (hL:LIn L) (s0:RS) (av:RIn L s0) (al:s0.opn=0):VCalls prog 137 [.ptr 0 0] [rB L s0] (RT L (zk8 L s0)):=by
 generalize hM:zk8 L s0=M
 unfold zk8 at hM
 have hn:=zO8 L hL s0 av
 have ah:=zc9 hL av
 generalize yY L s0=n at hn ah hM
 obtain⟨nm,s2⟩:=n
 simp only at hn ah hM
 have aw:=zd6 L hL s2 ah.rin wSET
 have ax:=ah.trans (yI hL wSET ah.rin)
 generalize yB L wSET s2=s3 at aw ax hM
 obtain⟨X,hX⟩:=eX (zB6 L 7 [] s3)
 rw[hX]at hM
 refine iV 1 func137 ntmps137 results137 fun c hc hb=> ?_
 refine zA ?_
 simp[go_sem]
 refine pR hn ?_
 simp[go_sem]
 refine pR aw ?_
 simp[go_sem]
 refine zK0 2 4 7 _ dC rfl rfl ?_
 simp only[Cg,Dc]
 refine zH (S:=List GAssign×RS) [0,2,3] (fun u=> [.ptr 0 0,.ptr 1 0,.ptr 2 0]) (fun u=> [rB L u.2,zSt,upB nm u.1,.app u.1.length 7]) (fun u=>7 - u.1.length) (fun u=>u.1.length<=6/\UI L s0 u.2/\zB6 L (7 - u.1.length) u.1 u.2=X) hc hb ([],s3) ⟨A4 _,ax,hX⟩ ?_ ?_
 .exact at_n 4 (by simp[go_sem];exact⟨rfl,rfl⟩) rfl (by simp[rB,zSt,upB,ltOb,ltC,ltK]) dC (zF sg rfl)
 rintro⟨l,s⟩ ⟨hl,hu,hinv⟩
 simp only at hl hu hinv
 have hs:=hu.rin
 have ho:=hu.opn.trans al
 have ad:=zr6 L hL s hs
 have ai:=zW8 (tokF L s).s (hL.txt _ (zC0 hs))
 have aa:=yh7 L hL s hs l.length 6 (zW0 L s)
 have ao:=zf6 (L:=L) (n:=l.length) (most:=6) (b:=zW0 L s) (s:=s)
 rw[show 7 - l.length=(6 - l.length)+1 by omega,zB6]at hinv
 generalize an:zW0 L s=bg at aa ao hinv
 unfold zW0 at an
 have ae:=zO8 L hL s hs
 have aj:=hu.trans (zc9 hL hs)
 generalize tokF L s=tk at ad ai an
 generalize zl0 tk.s=wd at ai an
 generalize zf1 L l.length 6 bg s=m at aa ao hinv
 have key:((tk.kind==1)=true/\wd=bg)∨((tk.kind==1)=false/\false=bg):=by
  revert an
  cases tk.kind==1<;>simp
 by_cases q:m.err=0
 rotate_left
 .have q':(m.err==0)=false:=by simpa using q
  rw[if_neg q]at hinv
  rw[q']at aa
  have aq:X.1=false:=by rw[<-hinv]
  have ar:X.2.1=l:=by rw[<-hinv]
  have au:X.2.2=m:=by rw[<-hinv]
  rw[if_neg (by rw[aq];decide),ar,au]at hM
  refine zA ?_
  simp[go_sem]
  refine pR ad ?_
  simp[go_sem,upB]
  refine za5 [(10,0),(12,3)] 1 5 sm kR kR ?_
  simp[go_sem]
  refine key.elim (fun⟨k1,k2⟩=> ?_) (fun⟨k1,k2⟩=> ?_)
  .simp[go_sem,k1]
   refine pD ai ?_
   simp[go_sem,k2]
   refine zw6 aa cB (wA ⟨zC rfl,zC rfl,zC rfl,tV⟩) rfl ?_
   simp[go_sem]
   exact zg7 (st:=⟨3,nm,[],[],l,false,zeroE,[],false,0⟩) hM
  .rw[<-k2]at aa
   simp[go_sem,k1]
   refine zw6 aa cB (wA ⟨zC rfl,zC rfl,zC rfl,tV⟩) rfl ?_
   simp[go_sem]
   exact zg7 (st:=⟨3,nm,[],[],l,false,zeroE,[],false,0⟩) hM
 have q':(m.err==0)=true:=by simpa using q
 obtain⟨he,ay,rfl⟩:=ao q
 rw[if_pos q]at hinv
 rw[q']at aa
 generalize yY L m=n1 at ae aj hinv
 obtain⟨af,t1⟩:=n1
 simp only at ae aj hinv
 have ak:=zd6 L hL t1 aj.rin [61]
 have ag:=aj.trans (yI hL [61] aj.rin)
 generalize yB L [61] t1=t2 at ak ag hinv
 have hx:=ex_w L hL t2 ag.rin (ag.opn.trans al)
 have ab:=ag.trans (zM9 hL ag.rin (ag.opn.trans al))
 generalize exF L t2=x at hx ab hinv
 obtain⟨e,t3⟩:=x
 simp only at ab hinv
 by_cases q3:isT L [44] t3=true
 .rw[if_pos q3]at hinv
  refine zA ?_
  simp[go_sem]
  refine pR ad ?_
  simp[go_sem,upB]
  refine za5 [(10,0),(12,3)] 1 5 sm kR kR ?_
  simp[go_sem]
  refine key.elim (fun⟨k1,k2⟩=> ?_) (fun⟨k1,k2⟩=> ?_)
  .simp[go_sem,k1]
   refine pD ai ?_
   simp[go_sem,k2]
   refine zw6 aa cB (wA ⟨zC rfl,zC rfl,zC rfl,tV⟩) rfl ?_
   simp[go_sem]
   refine pR ae ?_
   simp[go_sem]
   refine pR ak ?_
   simp[go_sem]
   refine za0 hx cB rd_1 ?_
   simp[go_sem,GExpr.row_eq]
   refine zI ⟨om,zV rfl⟩ ?_
   simp[go_sem]
   refine pR (xK L hL t3 ab.rin _ q3) ?_
   simp[go_sem]
   refine zG (l++ [⟨af,e⟩],zM t3) ⟨by simp;omega,⟨by simp;omega,ab.trans (yW hL ab.rin q3),by simp only[Ak,Bn,show 7 - (l.length+1)=6 - l.length by omega];exact hinv⟩, ?_⟩
   exact aN 4 (by simp[rB,zSt,ltOb,ltC,ltK])
  .rw[<-k2]at aa
   simp[go_sem,k1]
   refine zw6 aa cB (wA ⟨zC rfl,zC rfl,zC rfl,tV⟩) rfl ?_
   simp[go_sem]
   refine pR ae ?_
   simp[go_sem]
   refine pR ak ?_
   simp[go_sem]
   refine za0 hx cB rd_1 ?_
   simp[go_sem,GExpr.row_eq]
   refine zI ⟨om,zV rfl⟩ ?_
   simp[go_sem]
   refine pR (xK L hL t3 ab.rin _ q3) ?_
   simp[go_sem]
   refine zG (l++ [⟨af,e⟩],zM t3) ⟨by simp;omega,⟨by simp;omega,ab.trans (yW hL ab.rin q3),by simp only[Ak,Bn,show 7 - (l.length+1)=6 - l.length by omega];exact hinv⟩, ?_⟩
   exact aN 4 (by simp[rB,zSt,ltOb,ltC,ltK])
 have q3:isT L [44] t3=false:=by simpa using q3
 rw[if_neg (by rw[q3];decide)]at hinv
 have aq:X.1=true:=by rw[<-hinv]
 have ar:X.2.1=l++ [⟨af,e⟩]:=by rw[<-hinv]
 have au:X.2.2=t3:=by rw[<-hinv]
 rw[if_pos aq,ar,au]at hM
 obtain⟨gw,hw⟩:=yl6 L hL t3 ab.rin (ab.opn.trans al) [zSt,.box [.int .i64 3,.str nm,.sl .full [],.sl .full [],.sl (.app 3) (l.map GAssign.row++ [[.str af,.int .i64 e.kind,.str e.s,.int .i64 e.v.kind,.int .i64 e.v.n,.str e.v.s,.sl .ro (e.args.map GExpr.row)]]),.bool false,.int .i64 0,.str [],.int .i64 0,.int .i64 0,.str [],.sl .full [],.str [],.bool false,.int .i64 0],
  .app (l.length+1) 7,.box [.int .i64 tk.kind,.int .i64 tk.place,.str tk.s,.int .i64 tk.n],.box [.str af,.int .i64 e.kind,.str e.s,.int .i64 e.v.kind,.int .i64 e.v.n,.str e.v.s,.sl .ro (e.args.map GExpr.row)]] 1 _ _ _ _ _ _ _ _ rfl
 generalize whS L t3=s9 at hw hM
 generalize whE L t3=w9 at hw hM
 have hr:=fun τ=>zg7 (L:=L) (g1:= .full) (g2:= .full) (g3:= .app 3) (g4:=gw) (τ:=τ) (st:=⟨3,nm,[],[],l++ [⟨af,e⟩],w9.1,w9.2,[],false,0⟩) hM
 simp at hr
 refine zA ?_
 simp[go_sem]
 refine pR ad ?_
 simp[go_sem,upB]
 refine za5 [(10,0),(12,3)] 1 5 sm kR kR ?_
 simp[go_sem]
 refine key.elim (fun⟨k1,k2⟩=> ?_) (fun⟨k1,k2⟩=> ?_)
 .simp[go_sem,k1]
  refine pD ai ?_
  simp[go_sem,k2]
  refine zw6 aa cB (wA ⟨zC rfl,zC rfl,zC rfl,tV⟩) rfl ?_
  simp[go_sem]
  refine pR ae ?_
  simp[go_sem]
  refine pR ak ?_
  simp[go_sem]
  refine za0 hx cB rd_1 ?_
  simp[go_sem,GExpr.row_eq]
  refine zI ⟨om,zV rfl⟩ ?_
  simp[go_sem]
  refine pR (wK L hL t3 ab.rin _ q3) ?_
  simp[go_sem]
  refine zu2 hw cB ?_
  rintro r σ ⟨rfl,rfl⟩ _
  simp[go_sem]
  exact hr _
 .rw[<-k2]at aa
  simp[go_sem,k1]
  refine zw6 aa cB (wA ⟨zC rfl,zC rfl,zC rfl,tV⟩) rfl ?_
  simp[go_sem]
  refine pR ae ?_
  simp[go_sem]
  refine pR ak ?_
  simp[go_sem]
  refine za0 hx cB rd_1 ?_
  simp[go_sem,GExpr.row_eq]
  refine zI ⟨om,zV rfl⟩ ?_
  simp[go_sem]
  refine pR (wK L hL t3 ab.rin _ q3) ?_
  simp[go_sem]
  refine zu2 hw cB ?_
  rintro r σ ⟨rfl,rfl⟩ _
  simp[go_sem]
  exact hr _
def zO0 (c:UInt8):Bool:=decide (c.toNat=9)||(decide (c.toNat=10)||(decide (c.toNat=13)||decide (c.toNat=32)))
theorem yk7 (c:UInt8) (n:Nat):(((c.toNat:Nat):Int)==(n:Int))=decide (c.toNat=n):=by
 rw[D4]
 simp only[beq_iff_eq,decide_eq_true_eq]
 omega
theorem yX6 (c:UInt8):Pure prog 133 [.int .u8 c.toNat] (.bool (zO0 c)):=by
 generalize hM:zO0 c=M
 unfold zO0 at hM
 have h9:=yk7 c 9
 have aa:=yk7 c 10
 have ab:=yk7 c 13
 have ad:=yk7 c 32
 simp only[Cr]at h9 aa ab ad
 have ret: ∀(r:Bool) (τ:St),r=M->wret (some (.bool r)) 0 (fun r σ=>r= .bool M/\σ= []) τ:=fun r τ h=>by subst h;exact wR
 refine iW 0 func133 ntmps133 results133 fun c hc hb=>zL ?_
 simp[go_sem]
 repeat' (first
  |(refine xE (fun q=> ?_) (fun q=> ?_)<;>simp[go_sem,q])
  |(refine zR (fun q=> ?_) (fun q=> ?_)<;>simp[go_sem,q]))
 all_goals exact ret _ _ (by rw[<-hM];simp_all)
abbrev TR:=GToken×Nat×Int
def trV (x:TR):V:= .tup [.agg x.1.row,.int .i64 x.2.1,.int .i64 x.2.2]
theorem yE2 (x:TR):noS (trV x)=true:=rfl
theorem zd1 {t:GToken} {n:Nat} {e:Int} {M:TR} (h:(t,n,e)=M):wret (some (.tup [.agg [.int .i64 t.kind,.int .i64 t.place,.str t.s,.int .i64 t.n],.int .i64 n,.int .i64 e])) 0 (fun r σ=>r=trV M/\σ= []) τ:=by
 subst h
 exact wR
def numL (v:Int):List UInt8->Option Int
 | []=>some v
 |c::l=>if wJ c=true then(if(9223372036854775807 - ((c.toNat:Int) - 48))/10<v then none else numL (v*10+((c.toNat:Int) - 48)) l)else some v
def numT (at_:Nat) (l:List UInt8):TR:=
 match numL 0 l with
 |none=>(zm6,0,5)
 |some v=>if za3 ((l.dropWhile wJ).headD 0)=true then(zm6,0,13)else(⟨2,0,[],v⟩,at_+(l.takeWhile wJ).length,0)
theorem ye7 {c:UInt8} (h:wJ c=true):48<=c.toNat/\c.toNat<=57:=by unfold wJ at h;simpa using h
theorem yO9 (s:List UInt8) (hl:s.length<=maxLen) (a:Nat) (ha:a<=s.length):Pure prog 206 [.str s,.int .i64 a] (trV (numT a (s.drop a))):=by
 generalize hM:numT a (s.drop a)=M
 unfold numT at hM
 unfold maxLen at hl
 have ae:za3 0=false:=dC
 refine iV 0 func206 ntmps206 results206 fun c hc hb=> ?_
 refine zA ?_
 simp[go_sem]
 refine zH (S:=Nat×Int) [0,1,4,7] (fun u=> [.str s,.int .i64 u.1,.ptr 0 0,.int .i64 u.2]) (fun _=> [.box [.int .i64 0,.int .i64 0,.str [],.int .i64 0]]) (fun u=>s.length - u.1)
  (fun u=>u.1<=s.length/\0<=u.2/\u.2<=9223372036854775807/\(match numL u.2 (s.drop u.1)with|none=>(zm6,0,5)|some v=>if za3 (((s.drop u.1).dropWhile wJ).headD 0)=true then(zm6,0,13)else((⟨2,0,[],v⟩,u.1+((s.drop u.1).takeWhile wJ).length,0):TR))=M) hc hb (a,0) ⟨ha,Int.le_refl _,sm,hM⟩ ?_ ?_
 .exact aN 1 (by rfl)
 rintro⟨i,v⟩ ⟨hi,af,ag,hinv⟩
 simp only at hi af ag hinv
 by_cases q:i<s.length
 rotate_left
 .obtain rfl:i=s.length:=om
  rw[D6]at hinv
  have hinv:(⟨⟨2,0,[],v⟩,s.length,0⟩:TR)=M:=by rw[<-hinv];rfl
  refine zA ?_
  simp[go_sem]
  exact zd1 (t:=⟨2,0,[],v⟩) hinv
 have ei:=zQ q om
 obtain⟨x,hx⟩:=eX (s[i])
 rw[A8 q,hx]at hinv
 have aa:=zw1 x
 have ab:=zy6 x
 by_cases qd:wJ x=true
 rotate_left
 .have qd:wJ x=false:=by simpa using qd
  rw[numL,if_neg (by rw[qd];decide),List.dropWhile_cons_of_neg (by rw[qd];decide),List.takeWhile_cons_of_neg (by rw[qd];decide)]at hinv
  simp only[List.headD_cons,Dp,D1]at hinv
  rw[qd]at aa
  by_cases ql:za3 x=true
  .simp only[ql,if_true]at hinv
   rw[ql]at ab
   refine zA ?_
   simp[go_sem,q,hx]
   refine pC aa ?_
   simp[go_sem,q,hx]
   refine pC ab ?_
   simp[go_sem]
   exact zd1 (t:=zm6) hinv
  .have ql:za3 x=false:=by simpa using ql
   simp only[ql,D0,if_false]at hinv
   rw[ql]at ab
   refine zA ?_
   simp[go_sem,q,hx]
   refine pC aa ?_
   simp[go_sem,q,hx]
   refine pC ab ?_
   simp[go_sem]
   exact zd1 (t:=⟨2,0,[],v⟩) hinv
 have hr:=ye7 qd
 rw[numL,if_pos qd,List.dropWhile_cons_of_pos qd,Dy qd]at hinv
 rw[qd]at aa
 have e1:IntKind.u8.wrap ((x.toNat:Int) - 48)=(x.toNat:Int) - 48:=yE4 om om
 have e2:IntKind.i64.wrap ((x.toNat:Int) - 48)=(x.toNat:Int) - 48:=i64_id om om
 have e3:IntKind.i64.wrap (9223372036854775807 - ((x.toNat:Int) - 48))=9223372036854775807 - ((x.toNat:Int) - 48):=i64_id om om
 obtain⟨d,hd⟩: ∃d:Int,(x.toNat:Int) - 48=d:=⟨_,rfl⟩
 rw[hd]at hinv e1 e2 e3
 have ah:0<=d/\d<=9:=om
 have e4:IntKind.i64.wrap ((9223372036854775807 - d).tdiv 10)=(9223372036854775807 - d)/10:=by
  rw[Int.tdiv_eq_ediv_of_nonneg om,i64_id om om]
 refine zA ?_
 simp[go_sem,q,hx]
 refine pC aa ?_
 simp[go_sem,q,hx,e1,e2,e3,e4,hd]
 by_cases qg:(9223372036854775807 - d)/10<v
 .have ad:decide ((9223372036854775807 - d)/10<v)=true:=decide_eq_true qg
  simp only[qg,if_true]at hinv
  simp[go_sem,ad]
  exact zd1 (t:=zm6) hinv
 .have ad:decide ((9223372036854775807 - d)/10<v)=false:=decide_eq_false qg
  simp only[qg,if_false]at hinv
  have e5:IntKind.i64.wrap (v*10)=v*10:=i64_id om om
  have e6:IntKind.i64.wrap (v*10+d)=v*10+d:=i64_id om om
  simp[go_sem,ad,e5,e6,ei]
  refine zG (i+1,v*10+d) ⟨by simp only;omega,⟨by simp only;omega,by simp only;omega,by simp only;omega, ?_⟩, ?_⟩
  .simp only[Ag]at hinv
   rw[<-hinv]
   simp only[Ds,Ei 1]
  .exact aN 1 (by rfl)
end Go.Proofs.YtefbicjgbaaieaaGreat
