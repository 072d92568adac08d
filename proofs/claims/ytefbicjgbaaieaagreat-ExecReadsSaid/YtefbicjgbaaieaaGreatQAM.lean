/-
  The document's lexer, over trees (the library Vx); used by the theorem at the end of the claim.
  Conditions: as each theorem states them.
-/
import Derived.Test.YtefbicjgbaaieaaGreatQAL
set_option maxHeartbeats 8000000
namespace Go.Proofs.YtefbicjgbaaieaaGreat
open Go Go.Vx Go.Proofs.Tryz
set_option maxRecDepth 100000
theorem yD2{x:GExpr}(h:Wide x):∀e∈[x],Wide e:=λe he=>by simp only[Ag,Be,or_false]at he;subst he;exact h
theorem xZ5{x y:GExpr}(h:Wide x)(h2:Wide y):∀e∈[x,y],Wide e:=λe he=>by
 simp only[Ag,Be,or_false]at he;rcases he with rfl|rfl;.exact h
 .exact h2
theorem wb5(L:List GToken)(hL:LIn L)(rec:Nat->RS->PR)(s:RS)(hs:RIn L s)(h2:s.opn<=200)(aj:s.opn+1<=200->PW L rec (s.opn+1)):VCalls prog 355 [.ptr 0 0] [rB L s] (RR L (zf8 L (zh7 L rec 2) s)):=by
 have hr:=zP5 L hL s hs om;have aa:=zl4 hs h2;have ad:=zb8 (L:=L) s;have ak:=zh5 (L:=L) (s:=s);have ho:=hs.opn;have hM:zf8 L (zh7 L rec 2) s=if(yO L s).err=0then((notK L (rec 2) (rec 3) (yO L s)).1,outF (notK L (rec 2) (rec 3) (yO L s)).2)else(zeroE,outF (yO L s)):=rfl;generalize zf8 L (zh7 L rec 2) s=M at hM⊢;generalize yO L s=s1 at hr aa ad ak hM;have eo:=zE7 (o:=s1.opn) om om;refine iW 1 func355 ntmps355 results355 λc hc hb=>zO ?_;by_cases q1:s1.err=0;rotate_left
 .have ag:(s1.err==0)=false:=by simpa using q1
  rw[if_neg q1]at hM;rw[ag]at hr;simp[go_sem];refine pR hr ?_;simp[go_sem,rB,eo];exact zz5 (e:=zeroE) (s:=outF s1) hM
 have ag:(s1.err==0)=true:=by simpa using q1
 rw[if_pos q1]at hM;rw[ag]at hr;have hP:=aj (ak q1).2;have af:=zs2 L hL s1 aa;have ab:=ye4 L hL s1 aa wNOT;unfold notK at hM;unfold eatF at ab;by_cases q:isT L wNOT s1=true
 .rw[if_pos q]at hM;rw[if_pos q,q]at ab;have al:=aa.next hL q;have hy:=hP.ok 2 (zP s1) al ad;have ae:=hP.not (zP s1) al ad;generalize rec 2 (zP s1)=y at hy ae hM;have ah:=op_w L y.2 (tokF L s1).place wNOT [y.1] sm (yD2 hy.wide) (λhe=>by have h1:=(hy.err he).2;simp only[xM];omega);have an:(opF (tokF L s1).place wNOT [y.1] y.2).2.opn=s1.opn:=by show(opS _ _ _ y.2).opn=_;rw[yc2,hy.opn];rfl
  generalize opF (tokF L s1).place wNOT [y.1] y.2=z at ah hM an;have ai:IntKind.i64.wrap (z.2.opn-1)=z.2.opn-1:=by rw[an];exact eo
  simp only[Al,Bs,GExpr.row_eq]at ah;simp[go_sem];refine pR hr ?_;simp[go_sem];refine pR af ?_;simp[go_sem];refine pR ab ?_;simp[go_sem];refine za6 ae cB rd_1 ?_;simp[go_sem,GExpr.row_eq];refine za6 ah cB (wN ⟨zD rfl,zD rfl,zQ,tV⟩) ?_;simp[go_sem,rB,GExpr.row_eq,ai];exact wM (s:=outF z.2) hM
 .have q:isT L wNOT s1=false:=by simpa using q
  rw[if_neg (by rw[q];decide)]at hM;rw[if_neg (by rw[q];decide),q]at ab;have hy:=hP.ok 3 s1 aa ad;have ae:=hP.cmp s1 aa ad;generalize rec 3 s1=z at hy ae hM;have ai:IntKind.i64.wrap (z.2.opn-1)=z.2.opn-1:=by rw[hy.opn];exact eo
  simp[go_sem];refine pR hr ?_;simp[go_sem];refine pR af ?_;simp[go_sem];refine pR ab ?_;simp[go_sem];refine za6 ae cB rd_1 ?_;simp[go_sem,rB,GExpr.row_eq,ai];exact wM (s:=outF z.2) hM
theorem xp6(L:List GToken)(s:RS)(w:List UInt8)(ws:List (List UInt8))(h:isT L w s=true):anyF L s (w::ws)=w:=by unfold anyF;rw[if_pos h]
theorem xg6(L:List GToken)(s:RS)(w:List UInt8)(ws:List (List UInt8))(h:isT L w s=false):anyF L s (w::ws)=anyF L s ws:=by unfold anyF;rw[if_neg (by rw[h];decide)];cases ws<;>rfl
theorem xn2: ∀w∈signsC,w≠ []:=dc
theorem wa6(L:List GToken)(hL:LIn L)(rec:Nat->RS->PR)(s:RS)(hs:RIn L s)(h2:s.opn<=200)(ax:s.opn+1<=200->PW L rec (s.opn+1)):VCalls prog 364 [.ptr 0 0] [rB L s] (RR L (zf8 L (zh7 L rec 3) s)):=by
 have hr:=zP5 L hL s hs om;have ah:=zl4 hs h2;have ai:=zb8 (L:=L) s;have ay:=zh5 (L:=L) (s:=s);have ho:=hs.opn;have hM:zf8 L (zh7 L rec 3) s=if(yO L s).err=0then((cmpJ L (rec 4) (rec 4 (yO L s))).1,outF (cmpJ L (rec 4) (rec 4 (yO L s))).2)else(zeroE,outF (yO L s)):=rfl;generalize zf8 L (zh7 L rec 3) s=M at hM⊢;generalize yO L s=s1 at hr ah ai ay hM;have eo:=zE7 (o:=s1.opn) om om;refine iV 1 func364 ntmps364 results364 λc hc hb=>?_;by_cases q1:s1.err=0;rotate_left
 .have av:(s1.err==0)=false:=by simpa using q1
  rw[if_neg q1]at hM;rw[av]at hr;refine zA ?_;simp[go_sem];refine pR hr ?_;simp[go_sem,rB,eo];exact zz5 (e:=zeroE) (s:=outF s1) hM
 have av:(s1.err==0)=true:=by simpa using q1
 rw[if_pos q1]at hM;rw[av]at hr;have hP:=ax (ay q1).2;have hx:=hP.ok 4 s1 ah ai;have ar:=hP.sum s1 ah ai;generalize rec 4 s1=x at hx ar hM;have aj:=zs2 L hL x.2 hx.rin;have aa:=ye4 L hL x.2 hx.rin wIS;have af:=hx.opn;unfold cmpJ at hM;unfold eatF at aa;by_cases q:isT L wIS x.2=true
 .rw[if_pos q]at hM;rw[if_pos q,q]at aa;have ag:=hx.rin.next hL q;have ab:=ye4 L hL (zP x.2) ag wNOT;unfold eatF at ab;by_cases q2:isT L wNOT (zP x.2)=true
  .rw[if_pos q2]at hM;rw[if_pos q2,q2]at ab;have a7:=ag.next hL q2;have ak:=ze7 L hL _ a7 zs5;have al:=zp8 (L:=L) zs5 (zP (zP x.2));have an:=zj8 (L:=L) (w:=zs5) (s:=zP (zP x.2));generalize zZ L zs5 (zP (zP x.2))=u at ak al an hM;have aw:u.opn=s1.opn:=by rw[al];exact af
   have ae:IntKind.i64.wrap (u.opn-1)=u.opn-1:=by rw[aw];exact eo
   have ad:=op_w L (outF u) (tokF L x.2).place zT4 [x.1] sm (yD2 hx.wide) (λhe=>by have h1:=(hx.err (an he).1).2;simp only[xM];omega);have ao:M=opF (tokF L x.2).place zT4 [x.1] (outF u):=by rw[hM];unfold opF;rw[xd4]
   clear hM;generalize opF (tokF L x.2).place zT4 [x.1] (outF u)=z at ad ao;simp only[Al,Bs,GExpr.row_eq]at ad;refine zA ?_;simp[go_sem];refine pR hr ?_;simp[go_sem];refine za6 ar cB rd_1 ?_;simp[go_sem,GExpr.row_eq];refine pR aj ?_;simp[go_sem];refine pR aa ?_;simp[go_sem];refine pR ab ?_;simp[go_sem];refine pR ak ?_;simp[go_sem,rB,ae];refine za6 (s:=outF u) ad cB (wN ⟨zD rfl,zD rfl,zQ,tV⟩) ?_;simp[go_sem,GExpr.row_eq];exact wM ao
  .have q2:isT L wNOT (zP x.2)=false:=by simpa using q2
   rw[if_neg (by rw[q2];decide)]at hM;rw[if_neg (by rw[q2];decide),q2]at ab;have ak:=ze7 L hL _ ag zs5;have al:=zp8 (L:=L) zs5 (zP x.2);have an:=zj8 (L:=L) (w:=zs5) (s:=zP x.2);generalize zZ L zs5 (zP x.2)=u at ak al an hM;have aw:u.opn=s1.opn:=by rw[al];exact af
   have ae:IntKind.i64.wrap (u.opn-1)=u.opn-1:=by rw[aw];exact eo
   have ad:=op_w L (outF u) (tokF L x.2).place yd4 [x.1] sm (yD2 hx.wide) (λhe=>by have h1:=(hx.err (an he).1).2;simp only[xM];omega);have ao:M=opF (tokF L x.2).place yd4 [x.1] (outF u):=by rw[hM];unfold opF;rw[xd4]
   clear hM;generalize opF (tokF L x.2).place yd4 [x.1] (outF u)=z at ad ao;simp only[Al,Bs,GExpr.row_eq]at ad;refine zA ?_;simp[go_sem];refine pR hr ?_;simp[go_sem];refine za6 ar cB rd_1 ?_;simp[go_sem,GExpr.row_eq];refine pR aj ?_;simp[go_sem];refine pR aa ?_;simp[go_sem];refine pR ab ?_;simp[go_sem];refine pR ak ?_;simp[go_sem,rB,ae];refine za6 (s:=outF u) ad cB (wN ⟨zD rfl,zD rfl,zQ,tV⟩) ?_;simp[go_sem,GExpr.row_eq];exact wM ao
 have q:isT L wIS x.2=false:=by simpa using q
 rw[if_neg (by rw[q];decide)]at hM;rw[if_neg (by rw[q];decide),q]at aa;refine zA ?_;simp[go_sem];refine pR hr ?_;simp[go_sem];refine za6 ar cB rd_1 ?_;simp[go_sem,GExpr.row_eq];refine pR aj ?_;simp[go_sem];refine pR aa ?_;simp[go_sem];refine zH (S:=Nat) [0,2,3,4,5,7] (λi=>[.ptr 0 0,.ptr 1 0,.ptr 2 0,.int .i64 (tokF L x.2).place,.sl .ro (signsC.map λw=>[V.str w]),.int .i64 (i:Int)]) (λ_=>[rB L x.2,zB,.box x.1.row]) (λi=>6-i) (λi=>i<=6/\anyF L x.2 (signsC.drop i)=anyF L x.2 signsC) hc hb 0 ⟨A2 _,rfl⟩ ?_ ?_;.exact at_n 3 (by simp[go_sem,zB,GExpr.row_eq]) rfl (by simp[rB,zB,ltOb,ltC,ltK,GExpr.row_eq]) dc ⟨zq2 (by rfl),zq2 (by rfl),zq2 (by rfl),zD rfl,zQ,zD rfl,tV⟩
 rintro i⟨hi,hinv⟩;by_cases qi:i<6;rotate_left
 .obtain rfl:i=6:=om;have ha:anyF L x.2 signsC=[]:=by rw[<-hinv];rfl
  rw[if_pos ha]at hM;have ae:IntKind.i64.wrap (x.2.opn-1)=x.2.opn-1:=by rw[af];exact eo
  refine zA ?_;simp[go_sem,signsC,rB,ae,GExpr.row_eq];exact wM (s:=outF x.2) hM
 have aq:i<signsC.length:=qi;obtain⟨w,hw⟩:=eX (signsC[i]);have a8:w∈signsC:=hw▸A8 aq;have aA:=xn2 w a8;rw[A5 aq,hw]at hinv;have aa:=ye4 L hL x.2 hx.rin w;unfold eatF at aa;have az:decide ((i:Int)<6)=true:=decide_eq_true om;have ei:=zS qi dc;have au:(signsC.length:Int)=6:=rfl;by_cases qw:isT L w x.2=true;rotate_left
 .have qw:isT L w x.2=false:=by simpa using qw
  rw[xg6 L x.2 w _ qw]at hinv;rw[if_neg (by rw[qw];decide),qw]at aa;refine zA ?_;simp[go_sem,au,az,aq,hw];refine zI om ?_;simp[go_sem];refine pR aa ?_;simp[go_sem,ei];refine zG (i+1) ⟨om,⟨om,hinv⟩,?_⟩;exact at_n 3 (by simp[go_sem,rB,zB,GExpr.row_eq]) rfl (by simp[rB,zB,ltOb,ltC,ltK,GExpr.row_eq]) dc (zC sg rfl)
 rw[xp6 L x.2 w _ qw]at hinv;rw[if_neg (by rw[<-hinv];exact aA),<-hinv]at hM;rw[if_pos qw,qw]at aa;have ag:=hx.rin.next hL qw;have hy:=hP.ok 4 (zP x.2) ag (by show x.2.opn=_;rw[af,ai]);have a1:=hP.sum (zP x.2) ag (by show x.2.opn=_;rw[af,ai]);generalize rec 4 (zP x.2)=y at hy a1 hM;have ad:=op_w L y.2 (tokF L x.2).place w [x.1,y.1] sm (xZ5 hx.wide hy.wide) (λhe=>by have h1:=(hy.err he).2;have h2:=(hx.err (hy.err he).1).2;simp only[xM];omega);have a6:(opF (tokF L x.2).place w [x.1,y.1] y.2).2.opn=s1.opn:=by show(opS _ _ _ y.2).opn=_;rw[yc2,hy.opn];exact af
 generalize opF (tokF L x.2).place w [x.1,y.1] y.2=z at ad hM a6;have ae:IntKind.i64.wrap (z.2.opn-1)=z.2.opn-1:=by rw[a6];exact eo
 simp only[Al,Bs,GExpr.row_eq]at ad;refine zA ?_;simp[go_sem,au,az,aq,hw];refine zI om ?_;simp[go_sem];refine pR aa ?_;simp[go_sem];refine zb0 [(8,3),(10,3)] 1 3 sm kR kR ?_;simp[go_sem,aq,hw];refine zt1 a1 cB rd_1 ?_;simp[go_sem,GExpr.row_eq];refine zt1 ad cB (wN ⟨zD rfl,zD rfl,zQ,tV⟩) ?_;simp[go_sem,rB,GExpr.row_eq,ae];exact wM (s:=outF z.2) hM
theorem zS9(v:GValue):Pure prog 375 [.agg v.row] (.agg (valE v).row):=by refine iW 0 func375 ntmps375 results375 λc hc hb=>zO ?_;simp[go_sem];exact wA (r:=.agg [.int .i64 1,.str [],.int .i64 v.kind,.int .i64 v.n,.str v.s,.sl .ro []]) (zv4 ⟨zU rfl,zU rfl,zU rfl,zU rfl,zU rfl,yY,tV⟩) ⟨rfl,rfl⟩
theorem xN(L:List GToken)(hL:LIn L)(s:RS)(hs:RIn L s)(w:List UInt8)(h:isT L w s=true):VCalls prog 74 [.ptr 0 0,.str w] [rB L s] (λr σ=>r=.bool true/\σ=[rB L (zP s)]):=by have:=ye4 L hL s hs w;unfold eatF at this;rw[if_pos h,h]at this;exact this
theorem wV(L:List GToken)(hL:LIn L)(s:RS)(hs:RIn L s)(w:List UInt8)(h:isT L w s=false):VCalls prog 74 [.ptr 0 0,.str w] [rB L s] (λr σ=>r=.bool false/\σ=[rB L s]):=by have:=ye4 L hL s hs w;unfold eatF at this;rw[if_neg (by rw[h];decide),h]at this;exact this
theorem xT6(L:List GToken)(hL:LIn L)(rec:Nat->RS->PR)(s:RS)(hs:RIn L s)(hP:PW L rec s.opn)(hex:∀s',RIn L s'->s'.opn=s.opn->VCalls prog 210 [.ptr 0 0] [rB L s'] (RR L (rec 0 s'))):VCalls prog 374 [.ptr 0 0] [rB L s] (RR L (zH1 L (rec 6) (rec 0) s)):=by
 generalize hM:zH1 L (rec 6) (rec 0) s=M;unfold zH1 at hM;have ab:=zs2 L hL s hs;have an:=hs.at_;have hl:=hL.len;have ei:IntKind.i64.wrap ((s.at_:Int)+1)=((s.at_+1:Nat):Int):=by rw[i64_id om om];omega
 have ag:=zO7 L hL s hs;refine iW 1 func374 ntmps374 results374 λc hc hb=>zO ?_
 by_cases q1:isT L [45] s=true;.rw[if_pos q1]at hM;have ak:=xN L hL s hs _ q1;have ad:=hs.next hL q1;have hy:=hP.ok 6 (zP s) ad rfl;have ae:=hP.unary (zP s) ad rfl;generalize rec 6 (zP s)=y at hy ae hM;have ah:=op_w L y.2 (tokF L s).place [78,69,71] [y.1] sm (yD2 hy.wide) (λhe=>by have h1:=(hy.err he).2;simp only[xM];omega);generalize opF (tokF L s).place [78,69,71] [y.1] y.2=z at ah hM;simp only[Al,Bs,GExpr.row_eq]at ah;simp[go_sem];refine pR ab ?_;simp[go_sem];refine pR ak ?_;simp[go_sem];refine zb0 [(4,3),(6,3)] 1 3 sm kR kR ?_;simp[go_sem];refine zt1 ae cB rd_1 ?_;simp[go_sem,GExpr.row_eq];refine zt1 ah cB (wN ⟨zD rfl,zD rfl,zQ,tV⟩) ?_;simp[go_sem,GExpr.row_eq];exact wM hM.symm
 have q1:isT L [45] s=false:=by simpa using q1
 rw[if_neg (by rw[q1];decide)]at hM;have af:=wV L hL s hs _ q1;by_cases q2:isT L [40] s=true;.rw[if_pos q2]at hM;have aa:=xN L hL s hs _ q2;have ad:=hs.next hL q2;have hy:=hP.ok 0 (zP s) ad rfl;have ae:=hex (zP s) ad rfl;generalize rec 0 (zP s)=y at hy ae hM;have al:=ze7 L hL y.2 hy.rin [41];generalize zZ L [41] y.2=u at al hM;simp[go_sem];refine pR ab ?_;simp[go_sem];refine pR af ?_;simp[go_sem];refine pR aa ?_;simp[go_sem];refine za6 ae cB rd_1 ?_;simp[go_sem,GExpr.row_eq];refine pR al ?_;simp[go_sem];exact wM hM.symm
 have q2:isT L [40] s=false:=by simpa using q2
 rw[if_neg (by rw[q2];decide)]at hM;have aa:=wV L hL s hs _ q2;simp[go_sem];refine pR ab ?_;simp[go_sem];refine pR af ?_;simp[go_sem];refine pR aa ?_;simp[go_sem];by_cases q3:isT L [84,82,85,69] s=true;.rw[if_pos q3]at hM;have hv:=zS9 ⟨1,1,[]⟩;simp only[GExpr.row_eq,GValue.row]at hv;refine pR (xN L hL s hs _ q3) ?_;simp[go_sem];refine pC hv ?_;simp[go_sem];exact wM (e:=valE ⟨1,1,[]⟩) (s:=zP s) hM.symm
 have q3:isT L [84,82,85,69] s=false:=by simpa using q3
 rw[if_neg (by rw[q3];decide)]at hM;refine pR (wV L hL s hs _ q3) ?_;simp[go_sem];by_cases q4:isT L [70,65,76,83,69] s=true;.rw[if_pos q4]at hM;have hv:=zS9 ⟨1,0,[]⟩;simp only[GExpr.row_eq,GValue.row]at hv;refine pR (xN L hL s hs _ q4) ?_;simp[go_sem];refine pC hv ?_;simp[go_sem];exact wM (e:=valE ⟨1,0,[]⟩) (s:=zP s) hM.symm
 have q4:isT L [70,65,76,83,69] s=false:=by simpa using q4
 rw[if_neg (by rw[q4];decide)]at hM;refine pR (wV L hL s hs _ q4) ?_;simp[go_sem];by_cases q5:isT L zs5 s=true;.rw[if_pos q5]at hM;have hv:=zS9 ⟨0,0,[]⟩;simp only[GExpr.row_eq,GValue.row]at hv;refine pR (xN L hL s hs _ q5) ?_;simp[go_sem];refine pC hv ?_;simp[go_sem];exact wM (e:=valE ⟨0,0,[]⟩) (s:=zP s) hM.symm
 have q5:isT L zs5 s=false:=by simpa using q5
 rw[if_neg (by rw[q5];decide)]at hM;refine pR (wV L hL s hs _ q5) ?_;simp[go_sem];obtain⟨t,ht⟩:=eX (tokF L s);rw[ht]at hM;rw[ht];by_cases q6:t.kind=2
 .rw[if_pos q6]at hM;have hv:=zS9 ⟨2,t.n,[]⟩;simp only[GExpr.row_eq,GValue.row]at hv;have ai:(t.kind==2)=true:=by simpa using q6
  simp[go_sem,ai,rB,ei];refine pC hv ?_;simp[go_sem];exact wM (e:=valE ⟨2,t.n,[]⟩) (s:=zP s) hM.symm
 rw[if_neg q6]at hM;have ai:(t.kind==2)=false:=by simpa using q6
 simp[go_sem,ai];by_cases q7:t.kind=3
 .rw[if_pos q7]at hM;have hv:=zS9 ⟨3,0,t.s⟩;simp only[GExpr.row_eq,GValue.row]at hv;have aj:(t.kind==3)=true:=by simpa using q7
  simp[go_sem,aj,rB,ei];refine pC hv ?_;simp[go_sem];exact wM (e:=valE ⟨3,0,t.s⟩) (s:=zP s) hM.symm
 rw[if_neg q7]at hM;have aj:(t.kind==3)=false:=by simpa using q7
 simp[go_sem,aj];refine pR ag ?_;simp[go_sem];exact zz5 (e:=namE (yX L s).1) (s:=(yX L s).2) hM.symm
theorem xP1(L:List GToken)(hL:LIn L)(rec:Nat->RS->PR)(s:RS)(hs:RIn L s)(h2:s.opn<=200)(af:s.opn+1<=200->PW L rec (s.opn+1))(hex:s.opn+1<=200->∀s',RIn L s'->s'.opn=s.opn+1->VCalls prog 210 [.ptr 0 0] [rB L s'] (RR L (rec 0 s'))):VCalls prog 373 [.ptr 0 0] [rB L s] (RR L (zf8 L (zh7 L rec 6) s)):=by
 have hr:=zP5 L hL s hs om;have aa:=zl4 hs h2;have ad:=zb8 (L:=L) s;have ag:=zh5 (L:=L) (s:=s);have ho:=hs.opn;have hM:zf8 L (zh7 L rec 6) s=if(yO L s).err=0then((zH1 L (rec 6) (rec 0) (yO L s)).1,outF (zH1 L (rec 6) (rec 0) (yO L s)).2)else(zeroE,outF (yO L s)):=rfl;generalize zf8 L (zh7 L rec 6) s=M at hM⊢;generalize yO L s=s1 at hr aa ad ag hM;have eo:=zE7 (o:=s1.opn) om om;refine iW 1 func373 ntmps373 results373 λc hc hb=>zO ?_;by_cases q1:s1.err=0;rotate_left
 .have ae:(s1.err==0)=false:=by simpa using q1
  rw[if_neg q1]at hM;rw[ae]at hr;simp[go_sem];refine pR hr ?_;simp[go_sem,rB,eo];exact zz5 (e:=zeroE) (s:=outF s1) hM
 have ae:(s1.err==0)=true:=by simpa using q1
 rw[if_pos q1]at hM;rw[ae]at hr;have ab:=(ag q1).2;have hP:PW L rec s1.opn:=by rw[ad];exact af ab
 have hok:=yE8 hL (hP.ok 6) (hP.ok 0) s1 aa rfl;have ah:=xT6 L hL rec s1 aa hP (λs' h1 h2=>hex ab s' h1 (by rw[h2,ad]));generalize zH1 L (rec 6) (rec 0) s1=z at hok ah hM;have ai:IntKind.i64.wrap (z.2.opn-1)=z.2.opn-1:=by rw[hok.opn];exact eo
 simp[go_sem];refine pR hr ?_;simp[go_sem];refine za6 ah cB rd_1 ?_;simp[go_sem,rB,GExpr.row_eq,ai];exact wM (s:=outF z.2) hM
theorem xa3(L:List GToken)(s:RS)(x:PR)(aa:VCalls prog 267 [.ptr 0 0,.int .i64 0] [rB L s] (RR L x)):VCalls prog 210 [.ptr 0 0] [rB L s] (RR L x):=by refine iW 1 func210 ntmps210 results210 λc hc hb=>zO ?_;simp[go_sem];refine za6 aa cB (wN ⟨zD rfl,tV⟩) ?_;simp[go_sem,GExpr.row_eq];exact wM rfl
theorem xe6(L:List GToken)(hL:LIn L):∀(f:Nat)(o:Int),o<=200->201<=(f:Int)+o->PW L (pF L f) o
 |0,o,h,hf=>by omega|f+1,o,h,hf=>by
  have ih:∀s:RS,s.opn=o->s.opn+1<=200->PW L (pF L f) (s.opn+1):=λs hs h1=>xe6 L hL f (s.opn+1) h1 (by push_cast at hf;omega);have aa:∀s:RS,s.opn=o->s.opn+1<=200->∀s',RIn L s'->s'.opn=s.opn+1->VCalls prog 210 [.ptr 0 0] [rB L s'] (RR L (pF L f 0 s')):=λs hs h1 s' h2 h3=>xa3 L s' _ ((ih s hs h1).chain 0 (A2 _) s' h2 h3);refine⟨λw s hs ho=>xd7 hL (f+1) w s hs om (by push_cast at hf⊢;omega),λk hk s hs ho=>?_,λs hs ho=>?_,λs hs ho=>?_,λs hs ho=>?_,λs hs ho=>?_,λs hs ho=>?_⟩
  .have hk:k=0∨k=1:=om;rcases hk with rfl|rfl;.exact xq9 L hL (pF L f) s hs om (ih s ho)
   .exact xr0 L hL (pF L f) s hs om (ih s ho)
  .exact wb5 L hL (pF L f) s hs om (ih s ho)
  .exact wa6 L hL (pF L f) s hs om (ih s ho)
  .exact wc3 L hL (pF L f) s hs om (ih s ho)
  .exact xX7 L hL (pF L f) s hs om (ih s ho)
  .exact xP1 L hL (pF L f) s hs om (ih s ho) (aa s ho)
def exF(L:List GToken)(s:RS):PR:=pF L 201 0 s
theorem xt9{L:List GToken}(hL:LIn L){s:RS}(hs:RIn L s)(ho:s.opn=0):PI L s (exF L s):=xd7 hL 201 0 s hs om om
theorem ex_w(L:List GToken)(hL:LIn L)(s:RS)(hs:RIn L s)(ho:s.opn=0):VCalls prog 210 [.ptr 0 0] [rB L s] (RR L (exF L s)):=xa3 L s _ ((xe6 L hL 201 0 dc dc).chain 0 (A2 _) s hs ho)
mutual
def zk4:GExpr->Nat|.mk _ _ _ args=>zg3 args+1def zg3:List GExpr->Nat |[]=>0|e::l=>zk4 e+zg3 l
end
variable{e:GExpr}{w:List UInt8}{o:Int}{n:Int}{τ:St}
theorem zB9(e:GExpr):zk4 e=zg3 e.args+1:=by cases e;rw[zk4];rfl
inductive Good:GExpr->Prop|mk(e:GExpr)(hk:i64R e.kind)(hs:e.s.length<=1048576)(hv:e.v.ok)(hn:e.v.s.length<=1048576)(ha:∀x∈e.args,Good x):Good e
theorem Good.str(h:Good e):e.s.length<=1048576:=by cases h;assumption
theorem Good.v(h:Good e):e.v.ok:=by cases h;assumption
theorem Good.sub(h:Good e):∀x∈e.args,Good x:=by cases h;assumption
theorem yz5:(⟨0,0,[]⟩:GValue).ok:=⟨dc,dc,dc⟩
theorem xK4(h:0<=n/\n<=9223372036854775807):(⟨2,n,[]⟩:GValue).ok:=⟨by simp only;omega,by simp only;omega,A2 _⟩
theorem xP0{s:List UInt8}(h:s.length<=1048576):(⟨3,0,s⟩:GValue).ok:=⟨by simp only;omega,by simp only;omega,by simp only[maxLen];omega⟩
theorem xJ7{a:List GExpr}(h:w.length<=1048576)(ha:∀x∈a,Good x):Good (opE w a):=.mk _ (by show i64R 3;unfold i64R;decide) h yz5 (A2 _) ha
theorem zI0{v:GValue}(h:v.ok)(h2:v.s.length<=1048576):Good (valE v):=.mk _ (by show i64R 1;unfold i64R;decide) (A2 _) h h2 (λx hx=>by cases hx)
theorem xv1(h:w.length<=1048576):Good (namE w):=.mk _ (by show i64R 2;unfold i64R;decide) h yz5 (A2 _) (λx hx=>by cases hx)
theorem xu9:Good zeroE:=.mk _ (by show i64R 0;unfold i64R;decide) (A2 _) yz5 (A2 _) (λx hx=>by cases hx)
theorem yy1{x:GExpr}(h:Good x):∀e∈[x],Good e:=λe he=>by simp only[Ag,Be,or_false]at he;subst he;exact h
theorem xv0{x y:GExpr}(h:Good x)(h2:Good y):∀e∈[x,y],Good e:=λe he=>by
 simp only[Ag,Be,or_false]at he;rcases he with rfl|rfl;.exact h
 .exact h2
structure LGood(L:List GToken):Prop where txt:∀t∈L,t.s.length<=1048576num:∀t∈L,0<=t.n/\t.n<=9223372036854775807
variable {L:List GToken}
theorem zC2{s:RS}(hs:RIn L s):tokF L s∈L:=by unfold tokF;rw[A7,A0 hs.at_];exact A8 _
theorem xb2(hG:LGood L){s:RS}(hs:RIn L s)(h:isT L w s=true):w.length<=1048576:=by have:=hG.txt _ (zC2 hs);unfold isT at h;simp only[A6,beq_iff_eq]at h;rw[<-h.2.2];exact this
theorem zj9(hG:LGood L){s:RS}(hs:RIn L s):(yX L s).1.length<=1048576:=by
 unfold yX;split;.exact hG.txt _ (zC2 hs)
 .exact A2 _
structure PJ(s:RS)(x:PR):Prop where good:Good x.1size:x.2.err=0->zk4 x.1+s.at_<=x.2.at_
abbrev PK(L:List GToken)(s:RS)(x:PR):Prop:=PI L s x/\PJ s x
theorem xN8(w:List UInt8)(a:List GExpr):zk4 (opE w a)=zg3 a+1:=zB9 _
theorem yB8(x:GExpr):zg3 [x]=zk4 x:=by simp[zg3]
theorem xC3(x y:GExpr):zg3 [x,y]=zk4 x+zk4 y:=by simp[zg3]
theorem yu1(h:e.args=[]):zk4 e=1:=by rw[zB9,h];rfl
theorem yp1{s0 s:RS}(p:Int){a:List GExpr}(h1:w.length<=1048576)(h2:∀x∈a,Good x)(h3:s.err=0->zg3 a+1+s0.at_<=s.at_):PJ s0 (opF p w a s):=⟨xJ7 h1 h2,λhe=>by have h:=yA0 (p:=p) (w:=w) (a:=a) (s:=s) he;show zk4 (opE w a)+s0.at_<=(opS p w a s).at_;rw[zO8,xN8];exact h3 h.1⟩
theorem yi0(hL:LIn L)(hG:LGood L){o:Int}{sub:RS->PR}(ab:∀s,RIn L s->s.opn=o->PK L s (sub s))(ws:List (List UInt8)){s0:RS}:∀(n:Nat)(x:PR),PK L s0 x->s0.opn=o->PJ s0 (opsF L ws sub n x)
 |0,x,h,_=>h.2|n+1,x,h,ho=>by
  have aa:=zL6 hL (λs h1 h2=>(ab s h1 h2).1) ws 1 x h.1 ho;unfold opsF;unfold opsF at aa;split;.exact h.2
  rename_i ad;rw[if_neg ad]at aa;have hi:=zD1 ad;have hx:=h.1.opn;have hy:=ab (zP x.2) (h.1.rin.next hL hi) (by show x.2.opn=o;rw[hx,ho]);have hl:=xb2 hG h.1.rin hi;have aa:PI L s0 (opF (tokF L x.2).place (anyF L x.2 ws) [x.1,(sub (zP x.2)).1] (sub (zP x.2)).2):=aa;refine yi0 hL hG ab ws n _ ⟨aa,yp1 _ hl (xv0 h.2.good hy.2.good) (λhe=>?_)⟩ ho;have h1:=hy.2.size he;have h2:=h.2.size (hy.1.err he).1;rw[zb3]at h1;rw[xC3];omega
theorem xW4(hL:LIn L)(_hG:LGood L){rn rc:RS->PR}(h1:∀s,RIn L s->s.opn=o->PK L s (rn s))(h2:∀s,RIn L s->s.opn=o->PK L s (rc s))(s:RS)(hs:RIn L s)(ho:s.opn=o):PJ s (notK L rn rc s):=by
 unfold notK;split;.rename_i hi;have hy:=h1 (zP s) (hs.next hL hi) ho;refine yp1 _ dc (yy1 hy.2.good) (λhe=>?_);have h:=hy.2.size he;rw[zb3]at h;rw[yB8];omega
 .exact(h2 s hs ho).2
theorem xU0(hL:LIn L)(hG:LGood L){sub:RS->PR}(aa:∀s,RIn L s->s.opn=o->PK L s (sub s))(s:RS)(ho:s.opn=o)(x:PR)(h:PK L s x):PJ s (cmpJ L sub x):=by
 have hx:=h.1.opn;unfold cmpJ;split
 .rename_i hi;split;.rename_i ad;refine yp1 _ dc (yy1 h.2.good) (λhe=>?_);have h1:=h.2.size (zj8 he).1;have h2:=zw5 (L:=L) zs5 (zP (zP x.2));simp only[zb3]at h2;rw[yB8];omega
  .refine yp1 _ dc (yy1 h.2.good) (λhe=>?_);have h1:=h.2.size (zj8 he).1;have h2:=zw5 (L:=L) zs5 (zP x.2);simp only[zb3]at h2;rw[yB8];omega
 .split;.exact h.2
  rename_i ab;have hi:=zD1 ab;have hy:=aa (zP x.2) (h.1.rin.next hL hi) (by show x.2.opn=o;rw[hx,ho]);have hl:=xb2 hG h.1.rin hi;refine yp1 _ hl (xv0 h.2.good hy.2.good) (λhe=>?_);have h1:=hy.2.size he;have h2:=h.2.size (hy.1.err he).1;rw[zb3]at h1;rw[xC3];omega
theorem zK3{s s2:RS}(ha:e.args=[])(h:Good e)(h2:s2.err=0->s2.at_=s.at_+1):PJ s (e,s2):=⟨h,λhe=>by have:=h2 he;simp only[yu1 ha];omega⟩
theorem xH8(hL:LIn L)(hG:LGood L){un ex:RS->PR}(h1:∀s,RIn L s->s.opn=o->PK L s (un s))(h2:∀s,RIn L s->s.opn=o->PK L s (ex s))(s:RS)(hs:RIn L s)(ho:s.opn=o):PJ s (zH1 L un ex s):=by
 have hm:=zC2 hs;unfold zH1;split;.rename_i hi;have hy:=h1 (zP s) (hs.next hL hi) ho;refine yp1 _ dc (yy1 hy.2.good) (λhe=>?_);have h:=hy.2.size he;rw[zb3]at h;rw[yB8];omega
 split;.rename_i hi;have hy:=h2 (zP s) (hs.next hL hi) ho;refine⟨hy.2.good,λhe=>?_⟩;have h:=hy.2.size (zj8 he).1;have h3:=zw5 (L:=L) [41] (ex (zP s)).2;rw[zb3]at h;show zk4 (ex (zP s)).1+s.at_<=(zZ L [41] (ex (zP s)).2).at_;omega
 split;.exact zK3 rfl (zI0 ⟨dc,dc,dc⟩ (A2 _)) (λ_=>rfl)
 split;.exact zK3 rfl (zI0 ⟨dc,dc,dc⟩ (A2 _)) (λ_=>rfl)
 split;.exact zK3 rfl (zI0 yz5 (A2 _)) (λ_=>rfl)
 split;.exact zK3 rfl (zI0 (xK4 (hG.num _ hm)) (A2 _)) (λ_=>rfl)
 split;.exact zK3 rfl (zI0 (xP0 (hG.txt _ hm)) (hG.txt _ hm)) (λ_=>rfl)
 .refine zK3 rfl (xv1 (zj9 hG hs)) (λhe=>?_);have hb:=(zW0 he).2;unfold yX;rw[if_pos hb];rfl
theorem xH9(hL:LIn L)(hG:LGood L){rec:Nat->RS->PR}(h:∀w s,RIn L s->s.opn=o->PK L s (rec w s)):∀(w:Nat)(s:RS),RIn L s->s.opn=o->PJ s (zh7 L rec w s) |0,s,hs,ho=>yi0 hL hG (h 1) _ _ _ (h 1 s hs ho) ho|1,s,hs,ho=>yi0 hL hG (h 2) _ _ _ (h 2 s hs ho) ho|2,s,hs,ho=>xW4 hL hG (h 2) (h 3) s hs ho|3,s,hs,ho=>xU0 hL hG (h 4) s ho _ (h 4 s hs ho)|4,s,hs,ho=>yi0 hL hG (h 5) _ _ _ (h 5 s hs ho) ho|5,s,hs,ho=>yi0 hL hG (h 6) _ _ _ (h 6 s hs ho) ho|_w+6,s,hs,ho=>xH8 hL hG (h 6) (h 0) s hs ho
theorem xN4{k:RS->PR}(s:RS)(hk:(yO L s).err=0->PJ (yO L s) (k (yO L s))):PJ s (zf8 L k s):=by
 unfold zf8;split;.rename_i he;have hy:=hk he;refine⟨hy.good,λh=>?_⟩;have h2:=hy.size h;rw[zS3]at h2;exact h2
 .rename_i he;exact⟨xu9,λh=>absurd h he⟩
theorem pF_j(hL:LIn L)(hG:LGood L):∀(f:Nat)(w:Nat)(s:RS),RIn L s->s.opn<=200->201<=(f:Int)+s.opn->PJ s (pF L f w s)
 |0,w,s,hs,h2,hf=>by omega|f+1,w,s,hs,h2,hf=>by unfold pF;refine xN4 s (λhe=>?_);have h3:=(zh5 he).2;exact xH9 hL hG (o:=s.opn+1) (λw t ht ho=>⟨xd7 hL f w t ht om (by push_cast at hf;omega),pF_j hL hG f w t ht om (by push_cast at hf;omega)⟩) w _ (zl4 hs h2) (zb8 s)
theorem ex_j{L:List GToken}(hL:LIn L)(hG:LGood L){s:RS}(hs:RIn L s)(ho:s.opn=0):PJ s (exF L s):=pF_j hL hG 201 0 s hs om om
structure UI(L:List GToken)(s s':RS):Prop where
 rin:RIn L s'
 opn:s'.opn=s.opn
 up:s.at_<=s'.at_
 err:s'.err=0->s.err=0
variable {L:List GToken}
theorem UI.refl{s:RS}(h:RIn L s):UI L s s:=⟨h,rfl,A3 _,id⟩
theorem UI.trans{s s2 s3:RS}(h:UI L s s2)(k:UI L s2 s3):UI L s s3:=⟨k.rin,k.opn.trans h.opn,B3 h.up k.up,λe=>h.err (k.err e)⟩
theorem PI.ui{s:RS}{x:PR}(h:PI L s x):UI L s x.2:=⟨h.rin,h.opn,h.up,λe=>(h.err e).1⟩
theorem yB(hL:LIn L)(w:List UInt8){s:RS}(h:RIn L s):UI L s (zZ L w s):=⟨zl2 hL h,zp8 w s,zw5 w s,λe=>(zj8 e).1⟩
theorem zd7(hL:LIn L){s:RS}(h:RIn L s):UI L s (yX L s).2:=⟨yK6 hL h,ys7 s,yK7 s,λe=>(zW0 e).1⟩
theorem yV(hL:LIn L){s:RS}(h:RIn L s)(hi:isT L w s=true):UI L s (zP s):=⟨h.next hL hi,rfl,by simp[zP],id⟩
theorem xa4(e p:Int){s:RS}(h:RIn L s)(he:e≠0):UI L s (za8 e p s):=⟨yf1 h e p,zB0 e p s,by rw[zH7];exact A3 _,λq=>absurd q (zn2 he)⟩
theorem yT6(hL:LIn L){s:RS}(h:RIn L s):UI L s (numF L s).2:=by
 unfold numF;split;.rename_i hb;unfold numB at hb;simp only[A6,beq_iff_eq]at hb;exact⟨hL.next h (by rw[hb.2];decide),rfl,by simp[zP],id⟩
 .exact xa4 _ _ h dc
def zg8(L:List GToken)(n most:Int)(b:Bool)(s:RS):RS:=if s.err=0/\most<=n then za8 (if b=true then 3 else 13) (tokF L s).place s else s
theorem zo5{most:Int}{b:Bool}{s:RS}(h:RIn L s):UI L s (zg8 L n most b s):=by
 unfold zg8;split;.exact xa4 _ _ h (by split<;>decide)
 .exact UI.refl h
theorem zh4{most:Int}{b:Bool}{s:RS}(h:(zg8 L n most b s).err=0):s.err=0/\n<most/\zg8 L n most b s=s:=by
 unfold zg8 at h⊢;split at h;.exact absurd h (zn2 (by split<;>decide))
 .rename_i hc;rw[if_neg hc];refine⟨h,?_,rfl⟩;by_cases q:most<=n;.exact absurd ⟨h,q⟩ hc
  .omega
theorem yh2(L:List GToken)(hL:LIn L)(s:RS)(hs:RIn L s)(n most:Int)(b:Bool):VCalls prog 72 [.ptr 0 0,.int .i64 n,.int .i64 most,.bool b] [rB L s] (λr σ=>r=.bool ((zg8 L n most b s).err==0)/\σ=[rB L (zg8 L n most b s)]):=by
 have ht:=zs2 L hL s hs;have ae:=zH8 L s 3 (tokF L s).place;have ad:=zH8 L s 13 (tokF L s).place;have hM:zg8 L n most b s=if s.err=0/\most<=n then(if b=true then za8 3 (tokF L s).place s else za8 13 (tokF L s).place s)else s:=by unfold zg8;cases b<;>rfl
 generalize zg8 L n most b s=M at hM⊢;have e3:(za8 3 (tokF L s).place s).err≠0:=zn2 dc;have af:(za8 13 (tokF L s).place s).err≠0:=zn2 dc;generalize za8 3 (tokF L s).place s=f3 at*;generalize za8 13 (tokF L s).place s=f13 at*;refine iW 1 func72 ntmps72 results72 λc hc hb=>zO ?_;simp[go_sem,rB];by_cases q1:s.err=0;rotate_left
 .have aa:(s.err==0)=false:=by simpa using q1
  rw[if_neg (λh=>q1 h.1)]at hM;simp[go_sem,aa];exact xG (L:=L) (s:=s) (zD rfl) ⟨by rw[hM,aa],by rw[hM];rfl⟩
 have aa:(s.err==0)=true:=by simpa using q1
 by_cases q2:most<=n;rotate_left;.have ab:decide (most<=n)=false:=decide_eq_false q2;rw[if_neg (λh=>q2 h.2)]at hM;simp[go_sem,aa,ab];exact xG (L:=L) (s:=s) (zD rfl) ⟨by rw[hM,aa],by rw[hM];rfl⟩
 have ab:decide (most<=n)=true:=decide_eq_true q2;rw[if_pos ⟨q1,q2⟩]at hM;simp[go_sem,aa,ab];refine(A4 b).elim (λq=>?_) (λq=>?_)
 .rw[if_pos q]at hM;have ag:(f3.err==0)=false:=by simpa using e3
  subst q;simp[go_sem];refine pR ht ?_;simp[go_sem];refine pR ae ?_;simp[go_sem,rB];exact xG (L:=L) (s:=f3) (zD rfl) ⟨by rw[hM],by rw[hM];rfl⟩
 .rw[if_neg (by rw[q];decide)]at hM;subst q;simp[go_sem];refine pR ht ?_;simp[go_sem];refine pR ad ?_;simp[go_sem,rB];exact xG (L:=L) (s:=f13) (zD rfl) ⟨by rw[hM],by rw[hM];rfl⟩
def zW8:List UInt8:= [67,79,85,78,84]
def wSUM:List UInt8:= [83,85,77]
def yW1:List (List UInt8):=[[45],[40],[78,79,84],[84,82,85,69],[70,65,76,83,69],[78,85,76,76]]
def begF(L:List GToken)(item:Bool)(s:RS):Bool:=((tokF L s).kind==2||((tokF L s).kind==3||((tokF L s).kind==1&&ze1 (tokF L s).s)))||((item&&(isT L zW8 s||isT L wSUM s))||!(anyF L s yW1==[]))
theorem yE9(L:List GToken)(hL:LIn L)(s:RS)(hs:RIn L s)(item:Bool):VCalls prog 209 [.ptr 0 0,.bool item] [rB L s] (λr σ=>r=.bool (begF L item s)/\σ=[rB L s]):=by
 have ht:=zs2 L hL s hs;have h1:=is_w L hL s hs zW8;have h2:=is_w L hL s hs wSUM;have h3:=zX3 L hL s hs yW1 dc;have ab:=hL.txt _ (zC2 hs);have hw:=zq0 (tokF L s).s ab;generalize hM:begF L item s=M;unfold begF at hM;generalize isT L zW8 s=c1 at h1 hM;generalize isT L wSUM s=c2 at h2 hM;generalize anyF L s yW1=a at h3 hM;generalize ze1 (tokF L s).s=b at hw hM;have ad:(a !=[])=!a.isEmpty:=by cases a<;>rfl
 have aa:(a==[])=a.isEmpty:=by cases a<;>rfl
 rw[aa]at hM;have ret:∀(r:Bool)(τ:St),r=M->wret (some (.bool r)) 1 (λr σ=>r=.bool M/\σ=[rB L s]) (rB L s::τ):=λr τ h=>by subst h;exact xG (zD rfl) ⟨rfl,rfl⟩
 refine iW 1 func209 ntmps209 results209 λc hc hb=>zO ?_;simp[go_sem];refine pR ht ?_;simp[go_sem];repeat'(first |(refine zY (λq=>?_) (λq=>?_)<;>simp[go_sem,q])|(refine zN (λq=>?_) (λq=>?_)<;>simp[go_sem,q])|(refine pC hw ?_;simp[go_sem])|(refine pR h1 ?_;simp[go_sem])|(refine pR h2 ?_;simp[go_sem])|(refine pR h3 ?_;simp[go_sem]))
 all_goals exact ret _ _ (by rw[<-hM];simp_all)
variable {L:List GToken}
def zP9:List UInt8:= [87,72,69,82,69]
def whS(L:List GToken)(s:RS):RS:=if isT L zP9 s=true then(exF L (zP s)).2else s
def rowC(e:GExpr):List V:=[.int .i64 e.kind,.str e.s,.int .i64 e.v.kind,.int .i64 e.v.n,.str e.v.s,.sl .ro (e.args.map GExpr.row)]
def whB(L:List GToken)(s:RS)(a b:List V)(o:Ob):Ob:=if isT L zP9 s=true then .box (a++[.bool true]++rowC (exF L (zP s)).1++b)else o
theorem zM5(hL:LIn L){s:RS}(h:RIn L s)(ho:s.opn=0):UI L s (exF L s).2:=(xt9 hL h ho).ui
theorem yv2(hL:LIn L){s:RS}(h:RIn L s)(ho:s.opn=0):UI L s (whS L s):=by
 unfold whS;split;.rename_i hi;exact(yV hL h hi).trans (zM5 hL (h.next hL hi) ho)
 .exact UI.refl h
theorem xQ0(L:List GToken)(hL:LIn L)(s:RS)(hs:RIn L s)(ho:s.opn=0)(τ:St)(j:Nat)(c0 c1 c2 c3 c4 c5 c6 c7 c8 c9 af ag ab ad ae:V)(hj:τ[j]?=some (.box [c0,c1,c2,c3,c4,c5,c6,c7,c8,c9,af,ag,ab,ad,ae])):VCalls prog 139 [.ptr 0 0,.ptr (j+1) 0] (rB L s::τ) (λr σ=>r=.tup []/\σ=rB L (whS L s)::τ.set j (whB L s [c0,c1,c2,c3,c4] [ab,ad,ae] (.box [c0,c1,c2,c3,c4,c5,c6,c7,c8,c9,af,ag,ab,ad,ae]))):=by
 have aj:=(A1.1 hj).1;have ah:=(A1.1 hj).2;unfold whS whB;refine VCalls.intro (τ.length+1) func139 ntmps139 results139 rfl rfl (D1 rfl) λc hc hb=>zO ?_;by_cases q:isT L zP9 s=true
 .rw[if_pos q,if_pos q];have aa:=xN L hL s hs _ q;have ai:=ex_w L hL (zP s) (hs.next hL q) ho;generalize exF L (zP s)=y at ai⊢;simp[go_sem];refine pR aa ?_;simp[go_sem];refine za6 ai cB rd_1 ?_;simp[go_sem,GExpr.row_eq,ah,aj];refine yl2 ?_ ⟨rfl,?_⟩;.simp
  .simp[go_sem,rowC]
 .have q:isT L zP9 s=false:=by simpa using q
  have aa:=wV L hL s hs _ q;rw[if_neg (by rw[q];decide),if_neg (by rw[q];decide)];simp[go_sem];refine pR aa ?_;simp[go_sem];refine yl2 sm ⟨rfl,?_⟩;rw[<-ah,List.set_getElem_self]
def zw0(L:List GToken)(s:RS):GItem×RS:=if isT L zW8 s=true then(⟨3,zeroE⟩,zZ L [41] (zZ L [42] (zZ L [40] (zP s))))else if isT L wSUM s=true then(⟨4,(exF L (zZ L [40] (zP s))).1⟩,zZ L [41] (exF L (zZ L [40] (zP s))).2)else(⟨2,(exF L s).1⟩,(exF L s).2)
def zw1(L:List GToken):Nat->List GItem->RS->List GItem×RS |0,l,s=>(l,s)|n+1,l,s=>if(zg8 L l.length 6 (begF L true s) s).err=0then(if isT L [44] (zw0 L s).2=true then zw1 L n (l++[(zw0 L s).1]) (zP (zw0 L s).2)else(l++[(zw0 L s).1],(zw0 L s).2))else(l,zg8 L l.length 6 (begF L true s) s)
def zp7(L:List GToken)(s:RS):List GItem×RS:=if isT L [42] s=true then([⟨1,zeroE⟩],zP s)else zw1 L 7 [] s
theorem yy8(hL:LIn L){s:RS}(h:RIn L s)(ho:s.opn=0):UI L s (zw0 L s).2:=by
 unfold zw0;split;.rename_i hi;have h1:=yV hL h hi;have h2:=h1.trans (yB hL [40] h1.rin);have h3:=h2.trans (yB hL [42] h2.rin);exact h3.trans (yB hL [41] h3.rin)
 split;.rename_i hi;have h1:=yV hL h hi;have h2:=h1.trans (yB hL [40] h1.rin);have h3:=h2.trans (zM5 hL h2.rin (h2.opn.trans ho));exact h3.trans (yB hL [41] h3.rin)
 .exact zM5 hL h ho
theorem xi5{l:List GItem}{s:RS}{g:Tag}{M:List GItem×RS}(h:(l,s)=M):wret (some (.sl g (l.map GItem.row))) 1 (λr σ=>r=.sl .ro (M.1.map GItem.row)/\σ=[rB L M.2]) (rB L s::τ):=by subst h;exact xG zQ ⟨rfl,rfl⟩
theorem xK6(L:List GToken)(hL:LIn L)(s0:RS)(al:RIn L s0)(aw:s0.opn=0):VCalls prog 208 [.ptr 0 0] [rB L s0] (λr σ=>r=.sl .ro ((zp7 L s0).1.map GItem.row)/\σ=[rB L (zp7 L s0).2]):=by
 generalize hM:zp7 L s0=M;unfold zp7 at hM;refine iV 1 func208 ntmps208 results208 λc hc hb=>?_;refine zA ?_;simp[go_sem];by_cases q0:isT L [42] s0=true;.rw[if_pos q0]at hM;refine pR (xN L hL s0 al _ q0) ?_;simp[go_sem];refine xG (r:=.sl .ro ([(⟨1,zeroE⟩:GItem)].map GItem.row)) ?_ ⟨by rw[<-hM],by rw[<-hM]⟩;exact zQ
 have q0:isT L [42] s0=false:=by simpa using q0
 rw[if_neg (by rw[q0];decide)]at hM;refine pR (wV L hL s0 al _ q0) ?_;simp[go_sem];refine zk1 3 7 dc sg ?_;refine zH (S:=List GItem×RS) [0,3] (λu=>[.ptr 0 0,.sl (.app 1) (u.1.map GItem.row)]) (λu=>[rB L u.2,.app u.1.length 7]) (λu=>7-u.1.length) (λu=>u.1.length<=6/\UI L s0 u.2/\zw1 L (7-u.1.length) u.1 u.2=M) hc hb ([],s0) ⟨A2 _,UI.refl al,hM⟩ ?_ ?_;.exact aN 2 (by simp[rB,ltOb,ltC,ltK])
 rintro⟨l,s⟩⟨hl,hu,hinv⟩;simp only at hl hu hinv;have hs:=hu.rin;have ho:=hu.opn.trans aw;have ae:=yE9 L hL s hs true;have ab:=yh2 L hL s hs l.length 6 (begF L true s);have an:=zh4 (L:=L) (n:=l.length) (most:=6) (b:=begF L true s) (s:=s);rw[show 7-l.length=(6-l.length)+1by omega,zw1]at hinv;generalize begF L true s=bg at ae ab an hinv;generalize zg8 L l.length 6 bg s=m at ab an hinv;by_cases q:m.err=0;rotate_left
 .have q':(m.err==0)=false:=by simpa using q
  rw[if_neg q]at hinv;rw[q']at ab;refine zA ?_;simp[go_sem];refine pR ae ?_;simp[go_sem];refine pR ab ?_;simp[go_sem];exact xi5 hinv
 have q':(m.err==0)=true:=by simpa using q
 obtain⟨he,ax,rfl⟩:=an q;rw[if_pos q]at hinv;rw[q']at ab;have ak:=yy8 hL hs ho;have ad:=hu.trans ak;generalize hit:zw0 L m=it at hinv ak ad;unfold zw0 at hit;have aa:∀b,isT L [44] it.2=b->VCalls prog 74 [.ptr 0 0,.str [44]] [rB L it.2] (λr σ=>r=.bool b/\σ=[rB L (if b=true then zP it.2else it.2)]):=λb hb=>by cases b with|true=>exact xN L hL it.2 ad.rin _ hb|false=>exact wV L hL it.2 ad.rin _ hb
 by_cases q1:isT L zW8 m=true
 .rw[if_pos q1]at hit;have ah:=hs.next hL q1;have ai:=ze7 L hL _ ah [40];have af:=zl2 hL (w:=[40]) ah;generalize zZ L [40] (zP m)=u1 at ai af hit;have ao:=ze7 L hL _ af [42];have aq:=zl2 hL (w:=[42]) af;generalize zZ L [42] u1=u2 at ao aq hit;have aj:=ze7 L hL _ aq [41];generalize zZ L [41] u2=u3 at aj hit;subst hit;simp only at hinv ad aa;refine zA ?_;simp[go_sem];refine pR ae ?_;simp[go_sem];refine pR ab ?_;simp[go_sem];refine pR (xN L hL m hs _ q1) ?_;simp[go_sem];refine pR ai ?_;simp[go_sem];refine pR ao ?_;simp[go_sem];refine pR aj ?_;simp[go_sem];refine zI ⟨om,zV rfl⟩ ?_;simp[go_sem];refine(A4 (isT L [44] u3)).elim (λq2=>?_) (λq2=>?_);.rw[if_pos q2]at hinv;refine pR (aa true q2) ?_;simp[go_sem];refine zG (l++[⟨3,zeroE⟩],zP u3) ⟨by simp;omega,⟨by simp;omega,ad.trans (yV hL ad.rin q2),by simp only[B2,Bh,show 7-(l.length+1)=6-l.length by omega];exact hinv⟩,?_⟩;exact aM 2 (by simp[rB,ltOb,ltC,ltK]) (zC (by simp[go_sem]<;>exact⟨rfl,rfl,rfl,rfl,rfl,rfl⟩) rfl)
  .rw[if_neg (by rw[q2];decide)]at hinv;refine pR (aa false q2) ?_;simp[go_sem];exact xG (L:=L) zQ ⟨by rw[<-hinv];simp[GItem.row]<;>exact⟨rfl,rfl,rfl,rfl,rfl,rfl⟩,by rw[<-hinv]⟩
 have q1:isT L zW8 m=false:=by simpa using q1
 rw[if_neg (by rw[q1];decide)]at hit;by_cases ag:isT L wSUM m=true
 .rw[if_pos ag]at hit;have ah:=hs.next hL ag;have ai:=ze7 L hL _ ah [40];have af:=zl2 hL (w:=[40]) ah;have ar:=zp8 (L:=L) [40] (zP m);generalize zZ L [40] (zP m)=u1 at ai af ar hit;have au:u1.opn=0:=by rw[ar];exact ho
  have hx:=ex_w L hL u1 af au;have av:=(xt9 hL af au).rin;generalize exF L u1=x at hx av hit;have aj:=ze7 L hL _ av [41];generalize zZ L [41] x.2=u3 at aj hit;subst hit;simp only at hinv ad aa;refine zA ?_;simp[go_sem];refine pR ae ?_;simp[go_sem];refine pR ab ?_;simp[go_sem];refine pR (wV L hL m hs _ q1) ?_;simp[go_sem];refine pR (xN L hL m hs _ ag) ?_;simp[go_sem];refine pR ai ?_;simp[go_sem];refine za6 hx cB rd_1 ?_;simp[go_sem,GExpr.row_eq];refine pR aj ?_;simp[go_sem];refine zI ⟨om,zV rfl⟩ ?_;simp[go_sem];refine(A4 (isT L [44] u3)).elim (λq2=>?_) (λq2=>?_);.rw[if_pos q2]at hinv;refine pR (aa true q2) ?_;simp[go_sem];refine zG (l++[⟨4,x.1⟩],zP u3) ⟨by simp;omega,⟨by simp;omega,ad.trans (yV hL ad.rin q2),by simp only[B2,Bh,show 7-(l.length+1)=6-l.length by omega];exact hinv⟩,?_⟩;exact aM 2 (by simp[rB,ltOb,ltC,ltK]) (zC (by simp[go_sem]<;>exact⟨rfl,rfl,rfl,rfl,rfl,rfl⟩) rfl)
  .rw[if_neg (by rw[q2];decide)]at hinv;refine pR (aa false q2) ?_;simp[go_sem];exact xG (L:=L) zQ ⟨by rw[<-hinv];simp[GItem.row]<;>exact⟨rfl,rfl,rfl,rfl,rfl,rfl⟩,by rw[<-hinv]⟩
 have ag:isT L wSUM m=false:=by simpa using ag
 rw[if_neg (by rw[ag];decide)]at hit
 .have hx:=ex_w L hL m hs ho;generalize exF L m=x at hx hit;subst hit;simp only at hinv ad aa;refine zA ?_;simp[go_sem];refine pR ae ?_;simp[go_sem];refine pR ab ?_;simp[go_sem];refine pR (wV L hL m hs _ q1) ?_;simp[go_sem];refine pR (wV L hL m hs _ ag) ?_;simp[go_sem];refine za6 hx cB rd_1 ?_;simp[go_sem,GExpr.row_eq];refine zI ⟨om,zV rfl⟩ ?_;simp[go_sem];refine(A4 (isT L [44] x.2)).elim (λq2=>?_) (λq2=>?_);.rw[if_pos q2]at hinv;refine pR (aa true q2) ?_;simp[go_sem];refine zG (l++[⟨2,x.1⟩],zP x.2) ⟨by simp;omega,⟨by simp;omega,ad.trans (yV hL ad.rin q2),by simp only[B2,Bh,show 7-(l.length+1)=6-l.length by omega];exact hinv⟩,?_⟩;exact aM 2 (by simp[rB,ltOb,ltC,ltK]) (zC (by simp[go_sem]<;>exact⟨rfl,rfl,rfl,rfl,rfl,rfl⟩) rfl)
  .rw[if_neg (by rw[q2];decide)]at hinv;refine pR (aa false q2) ?_;simp[go_sem];exact xG (L:=L) zQ ⟨by rw[<-hinv];simp[GItem.row]<;>exact⟨rfl,rfl,rfl,rfl,rfl,rfl⟩,by rw[<-hinv]⟩
variable {L:List GToken}
def whE(L:List GToken)(s:RS):Bool×GExpr:=if isT L zP9 s=true then(true,(exF L (zP s)).1)else(false,zeroE)
theorem xZ4(L:List GToken)(s:RS)(a b:List V):∃g:Tag,whB L s a b (.box (a++[.bool false,.int .i64 0,.str [],.int .i64 0,.int .i64 0,.str [],.sl .full []]++b))=.box (a++[.bool (whE L s).1,.int .i64 (whE L s).2.kind,.str (whE L s).2.s,.int .i64 (whE L s).2.v.kind,.int .i64 (whE L s).2.v.n,.str (whE L s).2.v.s,.sl g ((whE L s).2.args.map GExpr.row)]++b):=by
 unfold whB whE;by_cases q:isT L zP9 s=true;.exact⟨.ro,by rw[if_pos q,if_pos q];simp[rowC]⟩
 .exact⟨.full,by rw[if_neg q,if_neg q];rfl⟩
theorem yl1(L:List GToken)(hL:LIn L)(s:RS)(hs:RIn L s)(ho:s.opn=0)(τ:St)(j:Nat)(c0 c1 c2 c3 c4 aa ab ad:V)(hj:τ[j]?=some (.box [c0,c1,c2,c3,c4,.bool false,.int .i64 0,.str [],.int .i64 0,.int .i64 0,.str [],.sl .full [],aa,ab,ad])):∃g:Tag,VCalls prog 139 [.ptr 0 0,.ptr (j+1) 0] (rB L s::τ) (λr σ=>r=.tup []/\σ=rB L (whS L s)::τ.set j (.box [c0,c1,c2,c3,c4,.bool (whE L s).1,.int .i64 (whE L s).2.kind,.str (whE L s).2.s,.int .i64 (whE L s).2.v.kind,.int .i64 (whE L s).2.v.n,.str (whE L s).2.v.s,.sl g ((whE L s).2.args.map GExpr.row),aa,ab,ad])):=by obtain⟨g,hg⟩:=xZ4 L s [c0,c1,c2,c3,c4] [aa,ab,ad];refine⟨g,?_⟩;have:=xQ0 L hL s hs ho τ j c0 c1 c2 c3 c4 _ _ _ _ _ _ _ aa ab ad hj;simp only[Bo,Cu]at hg;rw[hg]at this;exact this
def zC6:List UInt8:= [70,82,79,77]
def yX5:List UInt8:= [79,82,68,69,82]
def wBY:List UInt8:= [66,89]
def wASC:List UInt8:= [65,83,67]
def xE3:List UInt8:= [68,69,83,67]
def zF8:List UInt8:= [76,73,77,73,84]
def zI6(L:List GToken)(s:RS):(List UInt8×Bool)×RS:=if isT L yX5 s=true then if isT L wASC (yX L (zZ L wBY (zP s))).2=true then(((yX L (zZ L wBY (zP s))).1,false),zP (yX L (zZ L wBY (zP s))).2)else if isT L xE3 (yX L (zZ L wBY (zP s))).2=true then(((yX L (zZ L wBY (zP s))).1,true),zP (yX L (zZ L wBY (zP s))).2)else(((yX L (zZ L wBY (zP s))).1,false),(yX L (zZ L wBY (zP s))).2)else(([],false),s)
def zI5(L:List GToken)(s:RS):Int×RS:=if isT L zF8 s=true then numF L (zP s)else(-1,s)
theorem yi1(hL:LIn L){s:RS}(h:RIn L s):UI L s (zI6 L s).2:=by
 unfold zI6;split
 .rename_i hi;have h1:=yV hL h hi;have h2:=h1.trans (yB hL wBY h1.rin);have h3:=h2.trans (zd7 hL h2.rin);split;.exact h3.trans (yV hL h3.rin ‹_›)
  split;.exact h3.trans (yV hL h3.rin ‹_›)
  .exact h3
 .exact UI.refl h
theorem yJ5(hL:LIn L){s:RS}(h:RIn L s):UI L s (zI5 L s).2:=by
 unfold zI5;split;.rename_i hi;have h1:=yV hL h hi;exact h1.trans (yT6 hL h1.rin)
 .exact UI.refl h
def zl7(L:List GToken)(s:RS):GStmt×RS:=let x:=zp7 L s
 let n:=yX L (zZ L zC6 x.2)
 let w:=whE L n.2
 let o:=zI6 L (whS L n.2)
 let l:=zI5 L o.2
 (⟨1,n.1,x.1,[],[],w.1,w.2,o.1.1,o.1.2,l.1⟩,l.2)
theorem ys0(hL:LIn L):∀(n:Nat)(l:List GItem)(s:RS),RIn L s->s.opn=0->UI L s (zw1 L n l s).2
 |0,_,_,h,_=>UI.refl h|n+1,l,s,h,ho=>by
  unfold zw1;split
  .rename_i he;have h1:=yy8 hL h ho;split;.have h2:=h1.trans (yV hL h1.rin ‹_›);exact h2.trans (ys0 hL n _ _ h2.rin (h2.opn.trans ho))
   .exact h1
  .exact zo5 h
theorem yg1(hL:LIn L){s:RS}(h:RIn L s)(ho:s.opn=0):UI L s (zp7 L s).2:=by
 unfold zp7;split;.exact yV hL h ‹_›
 .exact ys0 hL 7 [] s h ho
def RT(L:List GToken)(x:GStmt×RS):V->St->Prop:=λr σ=>r=.agg x.1.row/\σ=[rB L x.2]
theorem zi0{g1 g2 g3 g4:Tag}{st:GStmt}{s:RS}{M:GStmt×RS}(h:(st,s)=M):wret (some (.agg [.int .i64 st.kind,.str st.table,.sl g1 (st.items.map GItem.row),.sl g2 (st.rows.map λl=>[V.sl .ro (l.map GExpr.row)]),.sl g3 (st.sets.map GAssign.row),.bool st.filtered,.int .i64 st.where_.kind,.str st.where_.s,.int .i64 st.where_.v.kind,.int .i64 st.where_.v.n,.str st.where_.v.s,.sl g4 (st.where_.args.map GExpr.row),.str st.order,.bool st.down,.int .i64 st.limit])) 1 (RT L M) (rB L s::τ):=by subst h;exact xG (L:=L) (r:=.agg st.row) (zv4 ⟨zU rfl,zU rfl,yY,yY,yY,zU rfl,zU rfl,zU rfl,zU rfl,zU rfl,zU rfl,yY,zU rfl,zU rfl,zU rfl,tV⟩) ⟨rfl,rfl⟩
theorem yh5(st:GStmt):noS (.agg st.row)=true:=rfl
theorem xn1(L:List GToken)(hL:LIn L)(s:RS)(hs:RIn L s)(ho:s.opn=0):VCalls prog 135 [.ptr 0 0] [rB L s] (RT L (zl7 L s)):=by
 generalize hM:zl7 L s=M;unfold zl7 at hM;have hx:=xK6 L hL s hs ho;have af:=yg1 hL hs ho;generalize zp7 L s=x at hx af hM;obtain⟨xl,s1⟩:=x;simp only at hx af hM;have hm:=ze7 L hL s1 af.rin zC6;have ag:=af.trans (yB hL zC6 af.rin);generalize zZ L zC6 s1=s2 at hm ag hM;have hn:=zO7 L hL s2 ag.rin;have ad:=ag.trans (zd7 hL ag.rin);generalize yX L s2=n at hn ad hM;obtain⟨nm,s3⟩:=n;simp only at hn ad hM;obtain⟨gw,hw⟩:=yl1 L hL s3 ad.rin (ad.opn.trans ho) [.box [.int .i64 0,.str [],.sl .full [],.sl .full [],.sl .full [],.bool false,.int .i64 0,.str [],.int .i64 0,.int .i64 0,.str [],.sl .full [],.str [],.bool false,.int .i64 0],.box [.int .i64 1,.str nm,.sl .ro (xl.map GItem.row),.sl .full [],.sl .full [],.bool false,.int .i64 0,.str [],.int .i64 0,.int .i64 0,.str [],.sl .full [],.str [],.bool false,.int .i64 (-1)]] 1 _ _ _ _ _ _ _ _ rfl;have ae:=ad.trans (yv2 hL ad.rin (ad.opn.trans ho));generalize whS L s3=s4 at hw ae hM;generalize whE L s3=w at hw hM;obtain⟨wb,we⟩:=w;simp only[Ca,Dd]at hw hM;have ah:=yi1 hL ae.rin;generalize hO:zI6 L s4=o at ah hM;obtain⟨⟨on,od⟩,s5⟩:=o;simp only at ah hM;have aa:=ae.trans ah;generalize hl:zI5 L s5=l at hM;obtain⟨ll,s6⟩:=l;simp only at hM;unfold zI6 at hO;unfold zI5 at hl;refine iW 1 func135 ntmps135 results135 λc hc hb=>zO ?_;simp[go_sem];refine pR hx ?_;simp[go_sem];refine pR hm ?_;simp[go_sem];refine pR hn ?_;simp[go_sem];refine zC7 hw cB ?_;rintro r σ⟨rfl,rfl⟩_;simp[go_sem];by_cases qO:isT L yX5 s4=true;rotate_left
 .have qO:isT L yX5 s4=false:=by simpa using qO
  rw[if_neg (by rw[qO];decide)]at hO;obtain⟨⟨rfl,rfl⟩,rfl⟩:([]=on/\false=od)/\s4=s5:=by simpa using hO
  refine pR (wV L hL s4 ae.rin _ qO) ?_;simp[go_sem];by_cases qL:isT L zF8 s4=true;.rw[if_pos qL]at hl;have ab:=ys8 L hL (zP s4) (aa.rin.next hL qL);rw[hl]at ab;refine pR (xN L hL s4 aa.rin _ qL) ?_;simp[go_sem];refine pR ab ?_;simp[go_sem];exact zi0 (st:=⟨1,nm,xl,[],[],wb,we,_,_,ll⟩) hM
  .have qL:isT L zF8 s4=false:=by simpa using qL
   rw[if_neg (by rw[qL];decide)]at hl;obtain⟨rfl,rfl⟩:-1=ll/\s4=s6:=by simpa using hl
   refine pR (wV L hL s4 aa.rin _ qL) ?_;simp[go_sem];exact zi0 (st:=⟨1,nm,xl,[],[],wb,we,_,_,-1⟩) hM
 rw[if_pos qO]at hO;have h1:=yV hL ae.rin qO;have ak:=ze7 L hL _ h1.rin wBY;have h2:=yB hL wBY h1.rin;generalize zZ L wBY (zP s4)=t1 at ak h2 hO;have ai:=zO7 L hL _ h2.rin;have h3:=zd7 hL h2.rin;generalize yX L t1=n2 at ai h3 hO;obtain⟨aj,t2⟩:=n2;simp only at ai h3 hO;refine pR (xN L hL s4 ae.rin _ qO) ?_;simp[go_sem];refine pR ak ?_;simp[go_sem];refine pR ai ?_;simp[go_sem];by_cases qA:isT L wASC t2=true
 .rw[if_pos qA]at hO;obtain⟨⟨rfl,rfl⟩,rfl⟩:(aj=on/\false=od)/\zP t2=s5:=by simpa using hO
  refine pR (xN L hL t2 h3.rin _ qA) ?_;simp[go_sem];by_cases qL:isT L zF8 (zP t2)=true;.rw[if_pos qL]at hl;have ab:=ys8 L hL (zP (zP t2)) (aa.rin.next hL qL);rw[hl]at ab;refine pR (xN L hL (zP t2) aa.rin _ qL) ?_;simp[go_sem];refine pR ab ?_;simp[go_sem];exact zi0 (st:=⟨1,nm,xl,[],[],wb,we,_,_,ll⟩) hM
  .have qL:isT L zF8 (zP t2)=false:=by simpa using qL
   rw[if_neg (by rw[qL];decide)]at hl;obtain⟨rfl,rfl⟩:-1=ll/\(zP t2)=s6:=by simpa using hl
   refine pR (wV L hL (zP t2) aa.rin _ qL) ?_;simp[go_sem];exact zi0 (st:=⟨1,nm,xl,[],[],wb,we,_,_,-1⟩) hM
 have qA:isT L wASC t2=false:=by simpa using qA
 rw[if_neg (by rw[qA];decide)]at hO;refine pR (wV L hL t2 h3.rin _ qA) ?_;simp[go_sem];by_cases qD:isT L xE3 t2=true
 .rw[if_pos qD]at hO;obtain⟨⟨rfl,rfl⟩,rfl⟩:(aj=on/\true=od)/\zP t2=s5:=by simpa using hO
  refine pR (xN L hL t2 h3.rin _ qD) ?_;simp[go_sem];by_cases qL:isT L zF8 (zP t2)=true;.rw[if_pos qL]at hl;have ab:=ys8 L hL (zP (zP t2)) (aa.rin.next hL qL);rw[hl]at ab;refine pR (xN L hL (zP t2) aa.rin _ qL) ?_;simp[go_sem];refine pR ab ?_;simp[go_sem];exact zi0 (st:=⟨1,nm,xl,[],[],wb,we,_,_,ll⟩) hM
  .have qL:isT L zF8 (zP t2)=false:=by simpa using qL
   rw[if_neg (by rw[qL];decide)]at hl;obtain⟨rfl,rfl⟩:-1=ll/\(zP t2)=s6:=by simpa using hl
   refine pR (wV L hL (zP t2) aa.rin _ qL) ?_;simp[go_sem];exact zi0 (st:=⟨1,nm,xl,[],[],wb,we,_,_,-1⟩) hM
 .have qD:isT L xE3 t2=false:=by simpa using qD
  rw[if_neg (by rw[qD];decide)]at hO;obtain⟨⟨rfl,rfl⟩,rfl⟩:(aj=on/\false=od)/\t2=s5:=by simpa using hO
  refine pR (wV L hL t2 h3.rin _ qD) ?_;simp[go_sem];by_cases qL:isT L zF8 t2=true;.rw[if_pos qL]at hl;have ab:=ys8 L hL (zP t2) (aa.rin.next hL qL);rw[hl]at ab;refine pR (xN L hL t2 aa.rin _ qL) ?_;simp[go_sem];refine pR ab ?_;simp[go_sem];exact zi0 (st:=⟨1,nm,xl,[],[],wb,we,_,_,ll⟩) hM
  .have qL:isT L zF8 t2=false:=by simpa using qL
   rw[if_neg (by rw[qL];decide)]at hl;obtain⟨rfl,rfl⟩:-1=ll/\t2=s6:=by simpa using hl
   refine pR (wV L hL t2 aa.rin _ qL) ?_;simp[go_sem];exact zi0 (st:=⟨1,nm,xl,[],[],wb,we,_,_,-1⟩) hM
variable {L:List GToken}
def rowL(L:List GToken):Nat->List GExpr->RS->Bool×List GExpr×RS |0,l,s=>(false,l,s)|n+1,l,s=>if(zg8 L l.length 6 (begF L false s) s).err=0then(if isT L [44] (exF L s).2=true then rowL L n (l++[(exF L s).1]) (zP (exF L s).2)else(true,l++[(exF L s).1],(exF L s).2))else(false,l,zg8 L l.length 6 (begF L false s) s)
def zG7(L:List GToken):Nat->List (List GExpr)->RS->List (List GExpr)×RS |0,R,s=>(R,s)|n+1,R,s=>if(zg8 L R.length 16 (isT L [40] s) s).err=0then(if(rowL L 7 [] (zZ L [40] s)).1=true then(if isT L [44] (zZ L [41] (rowL L 7 [] (zZ L [40] s)).2.2)=true then zG7 L n (R++[(rowL L 7 [] (zZ L [40] s)).2.1]) (zP (zZ L [41] (rowL L 7 [] (zZ L [40] s)).2.2))else(R++[(rowL L 7 [] (zZ L [40] s)).2.1],zZ L [41] (rowL L 7 [] (zZ L [40] s)).2.2))else(R,(rowL L 7 [] (zZ L [40] s)).2.2))else(R,zg8 L R.length 16 (isT L [40] s) s)
def yk7:List UInt8:= [73,78,84,79]
def zM0:List UInt8:=[86,65,76,85,69,83]
def zk9(L:List GToken)(s:RS):GStmt×RS:=let n:=yX L (zZ L yk7 s)
 let r:=zG7 L 17 [] (zZ L zM0 n.2)
 (⟨2,n.1,[],r.1,[],false,zeroE,[],false,0⟩,r.2)
theorem yB4(hL:LIn L):∀(n:Nat)(l:List GExpr)(s:RS),RIn L s->s.opn=0->UI L s (rowL L n l s).2.2
 |0,_,_,h,_=>UI.refl h|n+1,l,s,h,ho=>by
  unfold rowL;split
  .have h1:=zM5 hL h ho;split;.have h2:=h1.trans (yV hL h1.rin ‹_›);exact h2.trans (yB4 hL n _ _ h2.rin (h2.opn.trans ho))
   .exact h1
  .exact zo5 h
theorem yN1(hL:LIn L):∀(n:Nat)(R:List (List GExpr))(s:RS),RIn L s->s.opn=0->UI L s (zG7 L n R s).2
 |0,_,_,h,_=>UI.refl h|n+1,R,s,h,ho=>by
  unfold zG7;split
  .have h1:=yB hL [40] h;have h2:=h1.trans (yB4 hL 7 [] _ h1.rin (h1.opn.trans ho));split
   .have h3:=h2.trans (yB hL [41] h2.rin);split;.have h4:=h3.trans (yV hL h3.rin ‹_›);exact h4.trans (yN1 hL n _ _ h4.rin (h4.opn.trans ho))
    .exact h3
   .exact h2
  .exact zo5 h
theorem yS4(hL:LIn L){s:RS}(h:RIn L s)(ho:s.opn=0):UI L s (zk9 L s).2:=by unfold zk9;have h1:=yB hL yk7 h;have h2:=h1.trans (zd7 hL h1.rin);have h3:=h2.trans (yB hL zM0 h2.rin);exact h3.trans (yN1 hL 17 [] _ h3.rin (h3.opn.trans ho))
def inB(nm:List UInt8)(R:List (List GExpr)):Ob:=.box [.int .i64 2,.str nm,.sl .full [],.sl (.app 3) (R.map λl=>[V.sl .ro (l.map GExpr.row)]),.sl .full [],.bool false,.int .i64 0,.str [],.int .i64 0,.int .i64 0,.str [],.sl .full [],.str [],.bool false,.int .i64 0]
def zSt:Ob:=.box [.int .i64 0,.str [],.sl .full [],.sl .full [],.sl .full [],.bool false,.int .i64 0,.str [],.int .i64 0,.int .i64 0,.str [],.sl .full [],.str [],.bool false,.int .i64 0]
theorem xi3(L:List GToken)(hL:LIn L)(s0:RS)(au:RIn L s0)(av:s0.opn=0):VCalls prog 136 [.ptr 0 0] [rB L s0] (RT L (zk9 L s0)):=by
 generalize hM:zk9 L s0=M;unfold zk9 at hM;have aw:=ze7 L hL s0 au yk7;have ak:=yB hL yk7 au;generalize zZ L yk7 s0=s1 at aw ak hM;have hn:=zO7 L hL s1 ak.rin;have ag:=ak.trans (zd7 hL ak.rin);generalize yX L s1=n at hn ag hM;obtain⟨nm,s2⟩:=n;simp only at hn ag hM;have ax:=ze7 L hL s2 ag.rin zM0;have ay:=ag.trans (yB hL zM0 ag.rin);generalize zZ L zM0 s2=s3 at ax ay hM;obtain⟨X,hX⟩:=eX (zG7 L 17 [] s3);rw[hX]at hM;have ret:∀(R:List (List GExpr))(s:RS)(τ:St),(R,s)=X->wret (some (.agg [.int .i64 2,.str nm,.sl .full [],.sl (.app 3) (R.map λl=>[V.sl .ro (l.map GExpr.row)]),.sl .full [],.bool false,.int .i64 0,.str [],.int .i64 0,.int .i64 0,.str [],.sl .full [],.str [],.bool false,.int .i64 0])) 1 (RT L M) (rB L s::τ):=λR s τ h=>by subst h;exact zi0 (st:=⟨2,nm,[],R,[],false,zeroE,[],false,0⟩) hM
 refine iV 1 func136 ntmps136 results136 λc hc hb=>?_;refine zA ?_;simp[go_sem];refine pR aw ?_;simp[go_sem];refine pR hn ?_;simp[go_sem];refine pR ax ?_;simp[go_sem];refine zJ9 2 3 1 _ dc rfl rfl ?_;simp only[Ca,Dd];refine zH (S:=List (List GExpr)×RS) [0,2,3] (λu=>[.ptr 0 0,.ptr 1 0,.ptr 2 0]) (λu=>[rB L u.2,zSt,inB nm u.1,.app u.1.length 1]) (λu=>17-u.1.length) (λu=>u.1.length<=16/\UI L s0 u.2/\zG7 L (17-u.1.length) u.1 u.2=X) hc hb ([],s3) ⟨A2 _,ay,hX⟩ ?_ ?_;.exact at_n 4 (by simp[go_sem];exact⟨rfl,rfl⟩) rfl (by simp[rB,zSt,inB,ltOb,ltC,ltK]) dc (zC sg rfl)
 rintro⟨R,s⟩⟨hR,hu,hinv⟩;simp only at hR hu hinv;have hs:=hu.rin;have ho:=hu.opn.trans av;have ah:=is_w L hL s hs [40];have ad:=yh2 L hL s hs R.length 16 (isT L [40] s);have an:=zh4 (L:=L) (n:=R.length) (most:=16) (b:=isT L [40] s) (s:=s);rw[show 17-R.length=(16-R.length)+1by omega,zG7]at hinv;generalize isT L [40] s=bg at ah ad an hinv;generalize zg8 L R.length 16 bg s=m at ad an hinv;by_cases q:m.err=0;rotate_left
 .have q':(m.err==0)=false:=by simpa using q
  rw[if_neg q]at hinv;rw[q']at ad;refine zA ?_;simp[go_sem];refine zb0 [(5,3),(6,3)] 1 4 sm kR kR ?_;simp[go_sem,inB];refine zx2 ah cB (wN ⟨zD rfl,tV⟩) rfl ?_;simp[go_sem];refine zx2 ad cB (wN ⟨zD rfl,zD rfl,zD rfl,tV⟩) rfl ?_;simp[go_sem];exact ret _ _ _ hinv
 have q':(m.err==0)=true:=by simpa using q
 obtain⟨he,aC,rfl⟩:=an q;rw[if_pos q]at hinv;rw[q']at ad;have az:=ze7 L hL m hs [40];have a1:=hu.trans (yB hL [40] hs);generalize zZ L [40] m=s4 at az a1 hinv;obtain⟨Y,hY⟩:=eX (rowL L 7 [] s4);rw[hY]at hinv;refine zA ?_;simp[go_sem];refine zb0 [(5,3),(6,3)] 1 4 sm kR kR ?_;simp[go_sem,inB];refine zx2 ah cB (wN ⟨zD rfl,tV⟩) rfl ?_;simp[go_sem];refine zx2 ad cB (wN ⟨zD rfl,zD rfl,zD rfl,tV⟩) rfl ?_;simp[go_sem];refine pR az ?_;simp[go_sem];refine zk1 4 6 dc sg ?_;refine zH (S:=List GExpr×RS) [0,2,3,4] (λu=>[.ptr 0 0,.ptr 1 0,.ptr 2 0,.sl (.app 4) (u.1.map GExpr.row)]) (λu=>[rB L u.2,zSt,inB nm R,.app R.length 1,.app u.1.length 6]) (λu=>7-u.1.length) (λu=>u.1.length<=6/\UI L s0 u.2/\rowL L (7-u.1.length) u.1 u.2=Y) hc hb ([],s4) ⟨A2 _,a1,hY⟩ ?_ ?_;.exact at_n 5 (by simp[go_sem];rfl) rfl (by simp[rB,zSt,inB,ltOb,ltC,ltK]) dc (zC sg rfl)
 rintro⟨l,t⟩⟨hl,al,aa⟩;simp only at hl al aa;have ht:=al.rin;have a6:=al.opn.trans av;have ae:=yE9 L hL t ht false;have ab:=yh2 L hL t ht l.length 6 (begF L false t);have ai:=zh4 (L:=L) (n:=l.length) (most:=6) (b:=begF L false t) (s:=t);rw[show 7-l.length=(6-l.length)+1by omega,rowL]at aa;generalize begF L false t=a8 at ae ab ai aa;generalize zg8 L l.length 6 a8 t=m2 at ab ai aa;by_cases q2:m2.err=0;rotate_left
 .have ao:(m2.err==0)=false:=by simpa using q2
  rw[if_neg q2]at aa;rw[ao]at ab;have aq:Y.1=false:=by rw[<-aa]
  have ar:Y.2.2=m2:=by rw[<-aa]
  rw[if_neg (by rw[aq];decide),ar]at hinv;refine zA ?_;simp[go_sem];refine pR ae ?_;simp[go_sem];refine pR ab ?_;simp[go_sem,inB];exact ret _ _ _ hinv
 have ao:(m2.err==0)=true:=by simpa using q2
 obtain⟨aD,aB,rfl⟩:=ai q2;rw[if_pos q2]at aa;rw[ao]at ab;have hx:=ex_w L hL m2 ht a6;have af:=al.trans (zM5 hL ht a6);generalize exF L m2=x at hx af aa;by_cases q3:isT L [44] x.2=true;.rw[if_pos q3]at aa;refine zA ?_;simp[go_sem];refine pR ae ?_;simp[go_sem];refine pR ab ?_;simp[go_sem];refine za6 hx cB rd_1 ?_;simp[go_sem,GExpr.row_eq];refine zI ⟨om,zV rfl⟩ ?_;simp[go_sem];refine pR (xN L hL x.2 af.rin _ q3) ?_;simp[go_sem];refine zG (l++[x.1],zP x.2) ⟨by simp;omega,⟨by simp;omega,af.trans (yV hL af.rin q3),by simp only[B2,Bh,show 7-(l.length+1)=6-l.length by omega];exact aa⟩,?_⟩;exact aM 5 (by simp[rB,zSt,inB,ltOb,ltC,ltK]) (zC (by simp[go_sem,GExpr.row_eq]) rfl)
 have q3:isT L [44] x.2=false:=by simpa using q3
 rw[if_neg (by rw[q3];decide)]at aa;have aq:Y.1=true:=by rw[<-aa]
 have ar:Y.2.2=x.2:=by rw[<-aa]
 have aA:Y.2.1=l++[x.1]:=by rw[<-aa]
 rw[if_pos aq,ar,aA]at hinv;have a7:=ze7 L hL x.2 af.rin [41];have aj:=af.trans (yB hL [41] af.rin);generalize zZ L [41] x.2=s5 at a7 aj hinv;refine zA ?_;simp[go_sem];refine pR ae ?_;simp[go_sem];refine pR ab ?_;simp[go_sem];refine za6 hx cB rd_1 ?_;simp[go_sem,GExpr.row_eq];refine zI ⟨om,zV rfl⟩ ?_;simp[go_sem];refine pR (wV L hL x.2 af.rin _ q3) ?_;simp[go_sem];refine pR a7 ?_;simp[go_sem,inB];refine zI ⟨om,zV rfl⟩ ?_;simp[go_sem];by_cases q5:isT L [44] s5=true;.rw[if_pos q5]at hinv;refine pR (xN L hL s5 aj.rin _ q5) ?_;simp[go_sem];refine zG (R++[l++[x.1]],zP s5) ⟨by simp;omega,⟨by simp;omega,aj.trans (yV hL aj.rin q5),by simp only[B2,Bh,show 17-(R.length+1)=16-R.length by omega];exact hinv⟩,?_⟩;exact at_n 4 (by simp[go_sem,GExpr.row_eq]) rfl (by simp[rB,zSt,ltOb,ltC,ltK]) dc (zC sg rfl)
 .have q5:isT L [44] s5=false:=by simpa using q5
  rw[if_neg (by rw[q5];decide)]at hinv;refine pR (wV L hL s5 aj.rin _ q5) ?_;simp[go_sem];have hr:=ret (R++[l++[x.1]]) s5;simp[GExpr.row_eq]at hr;exact hr _ hinv
variable {L:List GToken}
def zV6(L:List GToken)(s:RS):Bool:=(tokF L s).kind==1&&ze1 (tokF L s).s
def wSET:List UInt8:= [83,69,84]
def zB8(L:List GToken):Nat->List GAssign->RS->Bool×List GAssign×RS|0,l,s=>(false,l,s)|n+1,l,s=>if(zg8 L l.length 6 (zV6 L s) s).err=0then(if isT L [44] (exF L (zZ L [61] (yX L s).2)).2=true then zB8 L n (l++[⟨(yX L s).1,(exF L (zZ L [61] (yX L s).2)).1⟩]) (zP (exF L (zZ L [61] (yX L s).2)).2)else(true,l++[⟨(yX L s).1,(exF L (zZ L [61] (yX L s).2)).1⟩],(exF L (zZ L [61] (yX L s).2)).2))else(false,l,zg8 L l.length 6 (zV6 L s) s)
def zl9(L:List GToken)(s:RS):GStmt×RS:=let n:=yX L s
 let r:=zB8 L 7 [] (zZ L wSET n.2)
 if r.1=true then(⟨3,n.1,[],[],r.2.1,(whE L r.2.2).1,(whE L r.2.2).2,[],false,0⟩,whS L r.2.2)else(⟨3,n.1,[],[],r.2.1,false,zeroE,[],false,0⟩,r.2.2)
theorem yj5(hL:LIn L):∀(n:Nat)(l:List GAssign)(s:RS),RIn L s->s.opn=0->UI L s (zB8 L n l s).2.2
 |0,_,_,h,_=>UI.refl h|n+1,l,s,h,ho=>by
  unfold zB8;split
  .have h1:=zd7 hL h;have h2:=h1.trans (yB hL [61] h1.rin);have h3:=h2.trans (zM5 hL h2.rin (h2.opn.trans ho));split;.have h4:=h3.trans (yV hL h3.rin ‹_›);exact h4.trans (yj5 hL n _ _ h4.rin (h4.opn.trans ho))
   .exact h3
  .exact zo5 h
theorem yX3(hL:LIn L){s:RS}(h:RIn L s)(ho:s.opn=0):UI L s (zl9 L s).2:=by
 unfold zl9;have h1:=zd7 hL h;have h2:=h1.trans (yB hL wSET h1.rin);have h3:=h2.trans (yj5 hL 7 [] _ h2.rin (h2.opn.trans ho));simp only;split;.exact h3.trans (yv2 hL h3.rin (h3.opn.trans ho))
 .exact h3
def upB(nm:List UInt8)(l:List GAssign):Ob:=.box [.int .i64 3,.str nm,.sl .full [],.sl .full [],.sl (.app 3) (l.map GAssign.row),.bool false,.int .i64 0,.str [],.int .i64 0,.int .i64 0,.str [],.sl .full [],.str [],.bool false,.int .i64 0]
theorem xo1(L:List GToken)(hL:LIn L)(s0:RS)(av:RIn L s0)(al:s0.opn=0):VCalls prog 137 [.ptr 0 0] [rB L s0] (RT L (zl9 L s0)):=by
 generalize hM:zl9 L s0=M;unfold zl9 at hM;have hn:=zO7 L hL s0 av;have ah:=zd7 hL av;generalize yX L s0=n at hn ah hM;obtain⟨nm,s2⟩:=n;simp only at hn ah hM;have aw:=ze7 L hL s2 ah.rin wSET;have ax:=ah.trans (yB hL wSET ah.rin);generalize zZ L wSET s2=s3 at aw ax hM;obtain⟨X,hX⟩:=eX (zB8 L 7 [] s3);rw[hX]at hM;refine iV 1 func137 ntmps137 results137 λc hc hb=>?_;refine zA ?_;simp[go_sem];refine pR hn ?_;simp[go_sem];refine pR aw ?_;simp[go_sem];refine zJ9 2 4 7 _ dc rfl rfl ?_;simp only[Ca,Dd];refine zH (S:=List GAssign×RS) [0,2,3] (λu=>[.ptr 0 0,.ptr 1 0,.ptr 2 0]) (λu=>[rB L u.2,zSt,upB nm u.1,.app u.1.length 7]) (λu=>7-u.1.length) (λu=>u.1.length<=6/\UI L s0 u.2/\zB8 L (7-u.1.length) u.1 u.2=X) hc hb ([],s3) ⟨A2 _,ax,hX⟩ ?_ ?_;.exact at_n 4 (by simp[go_sem];exact⟨rfl,rfl⟩) rfl (by simp[rB,zSt,upB,ltOb,ltC,ltK]) dc (zC sg rfl)
 rintro⟨l,s⟩⟨hl,hu,hinv⟩;simp only at hl hu hinv;have hs:=hu.rin;have ho:=hu.opn.trans al;have ad:=zs2 L hL s hs;have ai:=zq0 (tokF L s).s (hL.txt _ (zC2 hs));have aa:=yh2 L hL s hs l.length 6 (zV6 L s);have ao:=zh4 (L:=L) (n:=l.length) (most:=6) (b:=zV6 L s) (s:=s);rw[show 7-l.length=(6-l.length)+1by omega,zB8]at hinv;generalize an:zV6 L s=bg at aa ao hinv;unfold zV6 at an;have ae:=zO7 L hL s hs;have aj:=hu.trans (zd7 hL hs);generalize tokF L s=tk at ad ai an;generalize ze1 tk.s=wd at ai an;generalize zg8 L l.length 6 bg s=m at aa ao hinv;have key:((tk.kind==1)=true/\wd=bg)∨((tk.kind==1)=false/\false=bg):=by revert an;cases tk.kind==1<;>simp
 by_cases q:m.err=0;rotate_left
 .have q':(m.err==0)=false:=by simpa using q
  rw[if_neg q]at hinv;rw[q']at aa;have aq:X.1=false:=by rw[<-hinv]
  have ar:X.2.1=l:=by rw[<-hinv]
  have au:X.2.2=m:=by rw[<-hinv]
  rw[if_neg (by rw[aq];decide),ar,au]at hM;refine zA ?_;simp[go_sem];refine pR ad ?_;simp[go_sem,upB];refine zb0 [(10,0),(12,3)] 1 5 sm kR kR ?_;simp[go_sem];refine key.elim (λ⟨k1,k2⟩=>?_) (λ⟨k1,k2⟩=>?_);.simp[go_sem,k1];refine pD ai ?_;simp[go_sem,k2];refine zx2 aa cB (wN ⟨zD rfl,zD rfl,zD rfl,tV⟩) rfl ?_;simp[go_sem];exact zi0 (st:=⟨3,nm,[],[],l,false,zeroE,[],false,0⟩) hM
  .rw[<-k2]at aa;simp[go_sem,k1];refine zx2 aa cB (wN ⟨zD rfl,zD rfl,zD rfl,tV⟩) rfl ?_;simp[go_sem];exact zi0 (st:=⟨3,nm,[],[],l,false,zeroE,[],false,0⟩) hM
 have q':(m.err==0)=true:=by simpa using q
 obtain⟨he,ay,rfl⟩:=ao q;rw[if_pos q]at hinv;rw[q']at aa;generalize yX L m=n1 at ae aj hinv;obtain⟨af,t1⟩:=n1;simp only at ae aj hinv;have ak:=ze7 L hL t1 aj.rin [61];have ag:=aj.trans (yB hL [61] aj.rin);generalize zZ L [61] t1=t2 at ak ag hinv;have hx:=ex_w L hL t2 ag.rin (ag.opn.trans al);have ab:=ag.trans (zM5 hL ag.rin (ag.opn.trans al));generalize exF L t2=x at hx ab hinv;obtain⟨e,t3⟩:=x;simp only at ab hinv;by_cases q3:isT L [44] t3=true
 .rw[if_pos q3]at hinv;refine zA ?_;simp[go_sem];refine pR ad ?_;simp[go_sem,upB];refine zb0 [(10,0),(12,3)] 1 5 sm kR kR ?_;simp[go_sem];refine key.elim (λ⟨k1,k2⟩=>?_) (λ⟨k1,k2⟩=>?_);.simp[go_sem,k1];refine pD ai ?_;simp[go_sem,k2];refine zx2 aa cB (wN ⟨zD rfl,zD rfl,zD rfl,tV⟩) rfl ?_;simp[go_sem];refine pR ae ?_;simp[go_sem];refine pR ak ?_;simp[go_sem];refine za6 hx cB rd_1 ?_;simp[go_sem,GExpr.row_eq];refine zI ⟨om,zV rfl⟩ ?_;simp[go_sem];refine pR (xN L hL t3 ab.rin _ q3) ?_;simp[go_sem];refine zG (l++[⟨af,e⟩],zP t3) ⟨by simp;omega,⟨by simp;omega,ab.trans (yV hL ab.rin q3),by simp only[B2,Bh,show 7-(l.length+1)=6-l.length by omega];exact hinv⟩,?_⟩;exact aN 4 (by simp[rB,zSt,ltOb,ltC,ltK])
  .rw[<-k2]at aa;simp[go_sem,k1];refine zx2 aa cB (wN ⟨zD rfl,zD rfl,zD rfl,tV⟩) rfl ?_;simp[go_sem];refine pR ae ?_;simp[go_sem];refine pR ak ?_;simp[go_sem];refine za6 hx cB rd_1 ?_;simp[go_sem,GExpr.row_eq];refine zI ⟨om,zV rfl⟩ ?_;simp[go_sem];refine pR (xN L hL t3 ab.rin _ q3) ?_;simp[go_sem];refine zG (l++[⟨af,e⟩],zP t3) ⟨by simp;omega,⟨by simp;omega,ab.trans (yV hL ab.rin q3),by simp only[B2,Bh,show 7-(l.length+1)=6-l.length by omega];exact hinv⟩,?_⟩;exact aN 4 (by simp[rB,zSt,ltOb,ltC,ltK])
 have q3:isT L [44] t3=false:=by simpa using q3
 rw[if_neg (by rw[q3];decide)]at hinv;have aq:X.1=true:=by rw[<-hinv]
 have ar:X.2.1=l++[⟨af,e⟩]:=by rw[<-hinv]
 have au:X.2.2=t3:=by rw[<-hinv]
 rw[if_pos aq,ar,au]at hM;obtain⟨gw,hw⟩:=yl1 L hL t3 ab.rin (ab.opn.trans al) [zSt,.box [.int .i64 3,.str nm,.sl .full [],.sl .full [],.sl (.app 3) (l.map GAssign.row++[[.str af,.int .i64 e.kind,.str e.s,.int .i64 e.v.kind,.int .i64 e.v.n,.str e.v.s,.sl .ro (e.args.map GExpr.row)]]),.bool false,.int .i64 0,.str [],.int .i64 0,.int .i64 0,.str [],.sl .full [],.str [],.bool false,.int .i64 0],.app (l.length+1) 7,.box [.int .i64 tk.kind,.int .i64 tk.place,.str tk.s,.int .i64 tk.n],.box [.str af,.int .i64 e.kind,.str e.s,.int .i64 e.v.kind,.int .i64 e.v.n,.str e.v.s,.sl .ro (e.args.map GExpr.row)]] 1 _ _ _ _ _ _ _ _ rfl;generalize whS L t3=s9 at hw hM;generalize whE L t3=w9 at hw hM;have hr:=λτ=>zi0 (L:=L) (g1:=.full) (g2:=.full) (g3:=.app 3) (g4:=gw) (τ:=τ) (st:=⟨3,nm,[],[],l++[⟨af,e⟩],w9.1,w9.2,[],false,0⟩) hM;simp at hr;refine zA ?_;simp[go_sem];refine pR ad ?_;simp[go_sem,upB];refine zb0 [(10,0),(12,3)] 1 5 sm kR kR ?_;simp[go_sem];refine key.elim (λ⟨k1,k2⟩=>?_) (λ⟨k1,k2⟩=>?_);.simp[go_sem,k1];refine pD ai ?_;simp[go_sem,k2];refine zx2 aa cB (wN ⟨zD rfl,zD rfl,zD rfl,tV⟩) rfl ?_;simp[go_sem];refine pR ae ?_;simp[go_sem];refine pR ak ?_;simp[go_sem];refine za6 hx cB rd_1 ?_;simp[go_sem,GExpr.row_eq];refine zI ⟨om,zV rfl⟩ ?_;simp[go_sem];refine pR (wV L hL t3 ab.rin _ q3) ?_;simp[go_sem];refine zC7 hw cB ?_;rintro r σ⟨rfl,rfl⟩_;simp[go_sem];exact hr _
 .rw[<-k2]at aa;simp[go_sem,k1];refine zx2 aa cB (wN ⟨zD rfl,zD rfl,zD rfl,tV⟩) rfl ?_;simp[go_sem];refine pR ae ?_;simp[go_sem];refine pR ak ?_;simp[go_sem];refine za6 hx cB rd_1 ?_;simp[go_sem,GExpr.row_eq];refine zI ⟨om,zV rfl⟩ ?_;simp[go_sem];refine pR (wV L hL t3 ab.rin _ q3) ?_;simp[go_sem];refine zC7 hw cB ?_;rintro r σ⟨rfl,rfl⟩_;simp[go_sem];exact hr _
def zO0(c:UInt8):Bool:=decide (c.toNat=9)||(decide (c.toNat=10)||(decide (c.toNat=13)||decide (c.toNat=32)))
theorem yk3(c:UInt8)(n:Nat):(((c.toNat:Nat):Int)==(n:Int))=decide (c.toNat=n):=by rw[Du];simp only[beq_iff_eq,decide_eq_true_eq];omega
theorem yU7(c:UInt8):Pure prog 133 [.int .u8 c.toNat] (.bool (zO0 c)):=by
 generalize hM:zO0 c=M;unfold zO0 at hM;have h9:=yk3 c 9;have aa:=yk3 c 10;have ab:=yk3 c 13;have ad:=yk3 c 32;simp only[Cb]at h9 aa ab ad;have ret:∀(r:Bool)(τ:St),r=M->wret (some (.bool r)) 0 (λr σ=>r=.bool M/\σ=[]) τ:=λr τ h=>by subst h;exact wR
 refine iW 0 func133 ntmps133 results133 λc hc hb=>zO ?_;simp[go_sem];repeat'(first |(refine zY (λq=>?_) (λq=>?_)<;>simp[go_sem,q])|(refine zN (λq=>?_) (λq=>?_)<;>simp[go_sem,q]))
 all_goals exact ret _ _ (by rw[<-hM];simp_all)
abbrev TR:=GToken×Nat×Int
def trV(x:TR):V:=.tup [.agg x.1.row,.int .i64 x.2.1,.int .i64 x.2.2]
theorem yC4(x:TR):noS (trV x)=true:=rfl
theorem ze2{t:GToken}{n:Nat}{e:Int}{M:TR}(h:(t,n,e)=M):wret (some (.tup [.agg [.int .i64 t.kind,.int .i64 t.place,.str t.s,.int .i64 t.n],.int .i64 n,.int .i64 e])) 0 (λr σ=>r=trV M/\σ=[]) τ:=by subst h;exact wR
def numL(v:Int):List UInt8->Option Int|[]=>some v|c::l=>if wU c=true then(if(9223372036854775807-((c.toNat:Int)-48))/10<v then none else numL (v*10+((c.toNat:Int)-48)) l)else some v
def numT(at_:Nat)(l:List UInt8):TR:=match numL 0 l with |none=>(zn5,0,5)|some v=>if za9 ((l.dropWhile wU).headD 0)=true then(zn5,0,13)else(⟨2,0,[],v⟩,at_+(l.takeWhile wU).length,0)
theorem ye3{c:UInt8}(h:wU c=true):48<=c.toNat/\c.toNat<=57:=by unfold wU at h;simpa using h
theorem yM3(s:List UInt8)(hl:s.length<=maxLen)(a:Nat)(ha:a<=s.length):Pure prog 206 [.str s,.int .i64 a] (trV (numT a (s.drop a))):=by
 generalize hM:numT a (s.drop a)=M;unfold numT at hM;unfold maxLen at hl;have ae:za9 0=false:=dc;refine iV 0 func206 ntmps206 results206 λc hc hb=>?_;refine zA ?_;simp[go_sem];refine zH (S:=Nat×Int) [0,1,4,7] (λu=>[.str s,.int .i64 u.1,.ptr 0 0,.int .i64 u.2]) (λ_=>[.box [.int .i64 0,.int .i64 0,.str [],.int .i64 0]]) (λu=>s.length-u.1) (λu=>u.1<=s.length/\0<=u.2/\u.2<=9223372036854775807/\(match numL u.2 (s.drop u.1)with|none=>(zn5,0,5)|some v=>if za9 (((s.drop u.1).dropWhile wU).headD 0)=true then(zn5,0,13)else((⟨2,0,[],v⟩,u.1+((s.drop u.1).takeWhile wU).length,0):TR))=M) hc hb (a,0) ⟨ha,Int.le_refl _,sm,hM⟩ ?_ ?_;.exact aN 1 (by rfl)
 rintro⟨i,v⟩⟨hi,af,ag,hinv⟩;simp only at hi af ag hinv;by_cases q:i<s.length;rotate_left
 .obtain rfl:i=s.length:=om;rw[C6]at hinv;have hinv:(⟨⟨2,0,[],v⟩,s.length,0⟩:TR)=M:=by rw[<-hinv];rfl
  refine zA ?_;simp[go_sem];exact ze2 (t:=⟨2,0,[],v⟩) hinv
 have ei:=zS q om;obtain⟨x,hx⟩:=eX (s[i]);rw[A5 q,hx]at hinv;have aa:=zw8 x;have ab:=zy8 x;by_cases qd:wU x=true;rotate_left
 .have qd:wU x=false:=by simpa using qd
  rw[numL,if_neg (by rw[qd];decide),List.dropWhile_cons_of_neg (by rw[qd];decide),List.takeWhile_cons_of_neg (by rw[qd];decide)]at hinv;simp only[List.headD_cons,Dc,Cg]at hinv;rw[qd]at aa;by_cases ql:za9 x=true;.simp only[ql,if_true]at hinv;rw[ql]at ab;refine zA ?_;simp[go_sem,q,hx];refine pC aa ?_;simp[go_sem,q,hx];refine pC ab ?_;simp[go_sem];exact ze2 (t:=zn5) hinv
  .have ql:za9 x=false:=by simpa using ql
   simp only[ql,Bj,if_false]at hinv;rw[ql]at ab;refine zA ?_;simp[go_sem,q,hx];refine pC aa ?_;simp[go_sem,q,hx];refine pC ab ?_;simp[go_sem];exact ze2 (t:=⟨2,0,[],v⟩) hinv
 have hr:=ye3 qd;rw[numL,if_pos qd,List.dropWhile_cons_of_pos qd,Dp qd]at hinv;rw[qd]at aa;have e1:IntKind.u8.wrap ((x.toNat:Int)-48)=(x.toNat:Int)-48:=yC5 om om;have e2:IntKind.i64.wrap ((x.toNat:Int)-48)=(x.toNat:Int)-48:=i64_id om om;have e3:IntKind.i64.wrap (9223372036854775807-((x.toNat:Int)-48))=9223372036854775807-((x.toNat:Int)-48):=i64_id om om;obtain⟨d,hd⟩:∃d:Int,(x.toNat:Int)-48=d:=⟨_,rfl⟩;rw[hd]at hinv e1 e2 e3;have ah:0<=d/\d<=9:=om;have e4:IntKind.i64.wrap ((9223372036854775807-d).tdiv 10)=(9223372036854775807-d)/10:=by rw[E0 om,i64_id om om]
 refine zA ?_;simp[go_sem,q,hx];refine pC aa ?_;simp[go_sem,q,hx,e1,e2,e3,e4,hd];by_cases qg:(9223372036854775807-d)/10<v;.have ad:decide ((9223372036854775807-d)/10<v)=true:=decide_eq_true qg;simp only[qg,if_true]at hinv;simp[go_sem,ad];exact ze2 (t:=zn5) hinv
 .have ad:decide ((9223372036854775807-d)/10<v)=false:=decide_eq_false qg;simp only[qg,if_false]at hinv;have e5:IntKind.i64.wrap (v*10)=v*10:=i64_id om om;have e6:IntKind.i64.wrap (v*10+d)=v*10+d:=i64_id om om;simp[go_sem,ad,e5,e6,ei];refine zG (i+1,v*10+d) ⟨by simp only;omega,⟨by simp only;omega,by simp only;omega,by simp only;omega,?_⟩,?_⟩;.simp only[Ah]at hinv;rw[<-hinv];simp only[By,E8 1]
  .exact aN 1 (by rfl)
end Go.Proofs.YtefbicjgbaaieaaGreat
