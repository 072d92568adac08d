/-
  The document's reader of statements: what a SELECT tells, and WHERE, over trees (the library Vx); used by the theorem at the end of the claim.
  Conditions: as each theorem states them.
-/
import Derived.Test.YtajjjghohakniaaGreatSAV
namespace Go.Proofs.YtajjjghohakniaaGreat
open Go Go.Vx
set_option maxRecDepth 100000
theorem wide_1 {x:GExpr} (h:Wide x): ∀e∈ [x],Wide e:=fun e he=>by
 simp only[List.mem_cons,List.not_mem_nil,or_false]at he
 subst he
 exact h
theorem wide_2 {x y:GExpr} (h:Wide x) (h2:Wide y): ∀e∈ [x,y],Wide e:=fun e he=>by
 simp only[List.mem_cons,List.not_mem_nil,or_false]at he
 rcases he with rfl|rfl
 ·exact h
 ·exact h2
theorem not_w (L:List GToken) (hL:LIn L) (rec:Nat→RS→PR) (s:RS) (hs:RIn L s) (h2:s.opn≤200) (hrec:s.opn+1≤200→PW L rec (s.opn+1)):
  VCalls Tryz.prog 231 [.ptr 0 0] [rB L s] (RR L (ruled L (bodyF L rec 2) s)):=by
 have hr:=rule_w L hL s hs (by omega)
 have hrin:=ruleS_in hs h2
 have hro:=ruleS_opn (L:=L) s
 have hre:=ruleS_err (L:=L) (s:=s)
 have ho:=hs.opn
 have hM:ruled L (bodyF L rec 2) s=if(ruleS L s).err=0 then((notK L (rec 2) (rec 3) (ruleS L s)).1,outF (notK L (rec 2) (rec 3) (ruleS L s)).2)else(zeroE,outF (ruleS L s)):=rfl
 generalize ruled L (bodyF L rec 2) s=M at hM⊢
 generalize ruleS L s=s1 at hr hrin hro hre hM
 have eo:=out_i64 (o:=s1.opn) (by omega) (by omega)
 refine VCalls.intro 1 Tryz.func231 Tryz.ntmps231 Tryz.results231 rfl rfl (Nat.le_of_ble_eq_true rfl) fun c hc hb=>wcode_of ?_
 by_cases q1:s1.err=0
 rotate_left
 ·have q1':(s1.err==0)=false:=by simpa using q1
  rw[if_neg q1]at hM
  rw[q1']at hr
  simp[go_sem]
  refine wVC_rd hr Tryz.callB214 rd_1 rfl ?_
  simp[go_sem,rB,eo]
  exact wret_rg (e:=zeroE) (s:=outF s1) hM
 have q1':(s1.err==0)=true:=by simpa using q1
 rw[if_pos q1]at hM
 rw[q1']at hr
 have hP:=hrec (hre q1).2
 have htok:=tok_w L hL s1 hrin
 have heat:=eat_w L hL s1 hrin wNOT
 unfold notK at hM
 unfold eatF at heat
 by_cases q:isT L wNOT s1=true
 ·rw[if_pos q]at hM
  rw[if_pos q,q]at heat
  have hnx:=hrin.next hL q
  have hy:=hP.ok 2 (nextF s1) hnx hro
  have hcy:=hP.not (nextF s1) hnx hro
  generalize rec 2 (nextF s1)=y at hy hcy hM
  have hop:=op_w L y.2 (tokF L s1).place wNOT [y.1] (by simp) (wide_1 hy.wide) (fun he=>by
   have h1:=(hy.err he).2
   simp only[deepsF]
   omega)
  have hzo:(opF (tokF L s1).place wNOT [y.1] y.2).2.opn=s1.opn:=by
   show(opS _ _ _ y.2).opn=_
   rw[opS_opn,hy.opn];rfl
  generalize opF (tokF L s1).place wNOT [y.1] y.2=z at hop hM hzo
  have eo2:IntKind.i64.wrap (z.2.opn - 1)=z.2.opn - 1:=by rw[hzo];exact eo
  simp only[List.map_cons,List.map_nil,GExpr.row_eq]at hop
  simp[go_sem]
  refine wVC_rd hr Tryz.callB214 rd_1 rfl ?_
  simp[go_sem]
  refine wVC_rd htok Tryz.callB70 rd_1 rfl ?_
  simp[go_sem]
  refine wVC_rd heat Tryz.callB68 (rd_ptr ⟨argS_no rfl,trivial⟩) rfl ?_
  simp[go_sem]
  refine wVC_rr hcy Tryz.callB231 rd_1 ?_
  simp[go_sem,GExpr.row_eq]
  refine wVC_rr hop Tryz.callB217 (rd_ptr ⟨argS_no rfl,argS_no rfl,argS_ro,trivial⟩) ?_
  simp[go_sem,rB,GExpr.row_eq,eo2]
  exact wret_rr (s:=outF z.2) hM
 ·have q:isT L wNOT s1=false:=by simpa using q
  rw[if_neg (by rw[q];decide)]at hM
  rw[if_neg (by rw[q];decide),q]at heat
  have hy:=hP.ok 3 s1 hrin hro
  have hcy:=hP.cmp s1 hrin hro
  generalize rec 3 s1=z at hy hcy hM
  have eo2:IntKind.i64.wrap (z.2.opn - 1)=z.2.opn - 1:=by rw[hy.opn];exact eo
  simp[go_sem]
  refine wVC_rd hr Tryz.callB214 rd_1 rfl ?_
  simp[go_sem]
  refine wVC_rd htok Tryz.callB70 rd_1 rfl ?_
  simp[go_sem]
  refine wVC_rd heat Tryz.callB68 (rd_ptr ⟨argS_no rfl,trivial⟩) rfl ?_
  simp[go_sem]
  refine wVC_rr hcy Tryz.callB242 rd_1 ?_
  simp[go_sem,rB,GExpr.row_eq,eo2]
  exact wret_rr (s:=outF z.2) hM
theorem anyF_hit (L:List GToken) (s:RS) (w:List UInt8) (ws:List (List UInt8)) (h:isT L w s=true):anyF L s (w::ws)=w:=by unfold anyF;rw[if_pos h]
theorem anyF_miss (L:List GToken) (s:RS) (w:List UInt8) (ws:List (List UInt8)) (h:isT L w s=false):anyF L s (w::ws)=anyF L s ws:=by unfold anyF;rw[if_neg (by rw[h];decide)];cases ws<;>rfl
theorem signsC_ne: ∀w∈signsC,w≠ []:=by decide
theorem cmp_w (L:List GToken) (hL:LIn L) (rec:Nat→RS→PR) (s:RS) (hs:RIn L s) (h2:s.opn≤200) (hrec:s.opn+1≤200→PW L rec (s.opn+1)):
  VCalls Tryz.prog 242 [.ptr 0 0] [rB L s] (RR L (ruled L (bodyF L rec 3) s)):=by
 have hr:=rule_w L hL s hs (by omega)
 have hrin:=ruleS_in hs h2
 have hro:=ruleS_opn (L:=L) s
 have hre:=ruleS_err (L:=L) (s:=s)
 have ho:=hs.opn
 have hM:ruled L (bodyF L rec 3) s=if(ruleS L s).err=0 then((cmpJ L (rec 4) (rec 4 (ruleS L s))).1,outF (cmpJ L (rec 4) (rec 4 (ruleS L s))).2)else(zeroE,outF (ruleS L s)):=rfl
 generalize ruled L (bodyF L rec 3) s=M at hM⊢
 generalize ruleS L s=s1 at hr hrin hro hre hM
 have eo:=out_i64 (o:=s1.opn) (by omega) (by omega)
 refine VCalls.introV 1 Tryz.func242 Tryz.ntmps242 Tryz.results242 rfl rfl (Nat.le_of_ble_eq_true rfl) fun c hc hb=> ?_
 by_cases q1:s1.err=0
 rotate_left
 ·have q1':(s1.err==0)=false:=by simpa using q1
  rw[if_neg q1]at hM
  rw[q1']at hr
  refine wVW_code ?_
  simp[go_sem]
  refine wVC_rd hr Tryz.callB214 rd_1 rfl ?_
  simp[go_sem,rB,eo]
  exact wret_rg (e:=zeroE) (s:=outF s1) hM
 have q1':(s1.err==0)=true:=by simpa using q1
 rw[if_pos q1]at hM
 rw[q1']at hr
 have hP:=hrec (hre q1).2
 have hx:=hP.ok 4 s1 hrin hro
 have hcx:=hP.sum s1 hrin hro
 generalize rec 4 s1=x at hx hcx hM
 have htok:=tok_w L hL x.2 hx.rin
 have heat:=eat_w L hL x.2 hx.rin wIS
 have hxo:=hx.opn
 unfold cmpJ at hM
 unfold eatF at heat
 by_cases q:isT L wIS x.2=true
 ·rw[if_pos q]at hM
  rw[if_pos q,q]at heat
  have hnx:=hx.rin.next hL q
  have heat2:=eat_w L hL (nextF x.2) hnx wNOT
  unfold eatF at heat2
  by_cases q2:isT L wNOT (nextF x.2)=true
  ·rw[if_pos q2]at hM
   rw[if_pos q2,q2]at heat2
   have hn2:=hnx.next hL q2
   have hmu:=must_w L hL _ hn2 wNULL
   have hmo:=mustF_opn (L:=L) wNULL (nextF (nextF x.2))
   have hme:=mustF_err (L:=L) (w:=wNULL) (s:=nextF (nextF x.2))
   generalize mustF L wNULL (nextF (nextF x.2))=u at hmu hmo hme hM
   have huo:u.opn=s1.opn:=by rw[hmo];exact hxo
   have eo2:IntKind.i64.wrap (u.opn - 1)=u.opn - 1:=by rw[huo];exact eo
   have hop:=op_w L (outF u) (tokF L x.2).place wNOTNULL [x.1] (by simp) (wide_1 hx.wide) (fun he=>by
    have h1:=(hx.err (hme he).1).2
    simp only[deepsF]
    omega)
   have hMM:M=opF (tokF L x.2).place wNOTNULL [x.1] (outF u):=by rw[hM];unfold opF;rw[opS_out]
   clear hM
   generalize opF (tokF L x.2).place wNOTNULL [x.1] (outF u)=z at hop hMM
   simp only[List.map_cons,List.map_nil,GExpr.row_eq]at hop
   refine wVW_code ?_
   simp[go_sem]
   refine wVC_rd hr Tryz.callB214 rd_1 rfl ?_
   simp[go_sem]
   refine wVC_rr hcx Tryz.callB246 rd_1 ?_
   simp[go_sem,GExpr.row_eq]
   refine wVC_rd htok Tryz.callB70 rd_1 rfl ?_
   simp[go_sem]
   refine wVC_rd heat Tryz.callB68 (rd_ptr ⟨argS_no rfl,trivial⟩) rfl ?_
   simp[go_sem]
   refine wVC_rd heat2 Tryz.callB68 (rd_ptr ⟨argS_no rfl,trivial⟩) rfl ?_
   simp[go_sem]
   refine wVC_rd hmu Tryz.callB71 (rd_ptr ⟨argS_no rfl,trivial⟩) rfl ?_
   simp[go_sem,rB,eo2]
   refine wVC_rr (s:=outF u) hop Tryz.callB217 (rd_ptr ⟨argS_no rfl,argS_no rfl,argS_ro,trivial⟩) ?_
   simp[go_sem,GExpr.row_eq]
   exact wret_rr hMM
  ·have q2:isT L wNOT (nextF x.2)=false:=by simpa using q2
   rw[if_neg (by rw[q2];decide)]at hM
   rw[if_neg (by rw[q2];decide),q2]at heat2
   have hmu:=must_w L hL _ hnx wNULL
   have hmo:=mustF_opn (L:=L) wNULL (nextF x.2)
   have hme:=mustF_err (L:=L) (w:=wNULL) (s:=nextF x.2)
   generalize mustF L wNULL (nextF x.2)=u at hmu hmo hme hM
   have huo:u.opn=s1.opn:=by rw[hmo];exact hxo
   have eo2:IntKind.i64.wrap (u.opn - 1)=u.opn - 1:=by rw[huo];exact eo
   have hop:=op_w L (outF u) (tokF L x.2).place wISNULL [x.1] (by simp) (wide_1 hx.wide) (fun he=>by
    have h1:=(hx.err (hme he).1).2
    simp only[deepsF]
    omega)
   have hMM:M=opF (tokF L x.2).place wISNULL [x.1] (outF u):=by rw[hM];unfold opF;rw[opS_out]
   clear hM
   generalize opF (tokF L x.2).place wISNULL [x.1] (outF u)=z at hop hMM
   simp only[List.map_cons,List.map_nil,GExpr.row_eq]at hop
   refine wVW_code ?_
   simp[go_sem]
   refine wVC_rd hr Tryz.callB214 rd_1 rfl ?_
   simp[go_sem]
   refine wVC_rr hcx Tryz.callB246 rd_1 ?_
   simp[go_sem,GExpr.row_eq]
   refine wVC_rd htok Tryz.callB70 rd_1 rfl ?_
   simp[go_sem]
   refine wVC_rd heat Tryz.callB68 (rd_ptr ⟨argS_no rfl,trivial⟩) rfl ?_
   simp[go_sem]
   refine wVC_rd heat2 Tryz.callB68 (rd_ptr ⟨argS_no rfl,trivial⟩) rfl ?_
   simp[go_sem]
   refine wVC_rd hmu Tryz.callB71 (rd_ptr ⟨argS_no rfl,trivial⟩) rfl ?_
   simp[go_sem,rB,eo2]
   refine wVC_rr (s:=outF u) hop Tryz.callB217 (rd_ptr ⟨argS_no rfl,argS_no rfl,argS_ro,trivial⟩) ?_
   simp[go_sem,GExpr.row_eq]
   exact wret_rr hMM
 have q:isT L wIS x.2=false:=by simpa using q
 rw[if_neg (by rw[q];decide)]at hM
 rw[if_neg (by rw[q];decide),q]at heat
 refine wVW_code ?_
 simp[go_sem]
 refine wVC_rd hr Tryz.callB214 rd_1 rfl ?_
 simp[go_sem]
 refine wVC_rr hcx Tryz.callB246 rd_1 ?_
 simp[go_sem,GExpr.row_eq]
 refine wVC_rd htok Tryz.callB70 rd_1 rfl ?_
 simp[go_sem]
 refine wVC_rd heat Tryz.callB68 (rd_ptr ⟨argS_no rfl,trivial⟩) rfl ?_
 simp[go_sem]
 refine wVW_while (S:=Nat) [0,2,3,4,5,7] (fun i=> [.ptr 0 0,.ptr 1 0,.ptr 2 0,.int .i64 (tokF L x.2).place,.sl .ro (signsC.map fun w=> [V.str w]),.int .i64 (i:Int)]) (fun _=> [rB L x.2,zB,.box x.1.row]) (fun i=>6 - i) (fun i=>i≤6∧anyF L x.2 (signsC.drop i)=anyF L x.2 signsC) hc hb 0 ⟨Nat.zero_le _,rfl⟩ ?_ ?_
 ·exact at_n 3 (by simp[go_sem,zB,GExpr.row_eq]) rfl (by simp[rB,zB,ltOb,ltC,ltK,GExpr.row_eq]) (by decide) ⟨argS_lt (by rfl),argS_lt (by rfl),argS_lt (by rfl),argS_no rfl,argS_ro,argS_no rfl,trivial⟩
 rintro i ⟨hi,hinv⟩
 by_cases qi:i<6
 rotate_left
 ·obtain rfl:i=6:=by omega
  have ha:anyF L x.2 signsC= []:=by rw[←hinv];rfl
  rw[if_pos ha]at hM
  have eo2:IntKind.i64.wrap (x.2.opn - 1)=x.2.opn - 1:=by rw[hxo];exact eo
  refine wVW_code ?_
  simp[go_sem,signsC,rB,eo2,GExpr.row_eq]
  exact wret_rr (s:=outF x.2) hM
 have hsl:i<signsC.length:=qi
 obtain⟨w,hw⟩: ∃w,signsC[i]=w:=⟨_,rfl⟩
 have hwm:w∈signsC:=hw▸List.getElem_mem hsl
 have hw0:=signsC_ne w hwm
 rw[List.drop_eq_getElem_cons hsl,hw]at hinv
 have heat:=eat_w L hL x.2 hx.rin w
 unfold eatF at heat
 have hi6:decide ((i:Int)<6)=true:=decide_eq_true (by omega)
 have ei:=i64_inc qi (by decide)
 have hsl':(signsC.length:Int)=6:=rfl
 by_cases qw:isT L w x.2=true
 rotate_left
 ·have qw:isT L w x.2=false:=by simpa using qw
  rw[anyF_miss L x.2 w _ qw]at hinv
  rw[if_neg (by rw[qw];decide),qw]at heat
  refine wVW_code ?_
  simp[go_sem,hsl',hi6,hsl,hw]
  refine wneed_i (by omega) ?_
  simp[go_sem]
  refine wVC_rd heat Tryz.callB68 (rd_ptr ⟨argS_no rfl,trivial⟩) rfl ?_
  simp[go_sem,ei]
  refine next_i (i+1) ⟨by omega,⟨by omega,hinv⟩, ?_⟩
  exact at_n 3 (by simp[go_sem,rB,zB,GExpr.row_eq]) rfl (by simp[rB,zB,ltOb,ltC,ltK,GExpr.row_eq]) (by decide) (args_lt_eq (by simp[go_sem]) rfl)
 rw[anyF_hit L x.2 w _ qw]at hinv
 rw[if_neg (by rw[←hinv];exact hw0),←hinv]at hM
 rw[if_pos qw,qw]at heat
 have hnx:=hx.rin.next hL qw
 have hy:=hP.ok 4 (nextF x.2) hnx (by show x.2.opn=_;rw[hxo,hro])
 have hcy:=hP.sum (nextF x.2) hnx (by show x.2.opn=_;rw[hxo,hro])
 generalize rec 4 (nextF x.2)=y at hy hcy hM
 have hop:=op_w L y.2 (tokF L x.2).place w [x.1,y.1] (by simp) (wide_2 hx.wide hy.wide) (fun he=>by
   have h1:=(hy.err he).2
   have h2:=(hx.err (hy.err he).1).2
   simp only[deepsF]
   omega)
 have hzo:(opF (tokF L x.2).place w [x.1,y.1] y.2).2.opn=s1.opn:=by
  show(opS _ _ _ y.2).opn=_
  rw[opS_opn,hy.opn];exact hxo
 generalize opF (tokF L x.2).place w [x.1,y.1] y.2=z at hop hM hzo
 have eo2:IntKind.i64.wrap (z.2.opn - 1)=z.2.opn - 1:=by rw[hzo];exact eo
 simp only[List.map_cons,List.map_nil,GExpr.row_eq]at hop
 refine wVW_code ?_
 simp[go_sem,hsl',hi6,hsl,hw]
 refine wneed_i (by omega) ?_
 simp[go_sem]
 refine wVC_rd heat Tryz.callB68 (rd_ptr ⟨argS_no rfl,trivial⟩) rfl ?_
 simp[go_sem]
 refine wdraw_but [(8,3),(10,3)] 1 3 (by simp) (by kernel_rfl) (by kernel_rfl) ?_
 simp[go_sem,hsl,hw,GExpr.row_eq]
 refine wVD_rr hcy Tryz.callB246 rd_1 ?_
 simp[go_sem,GExpr.row_eq]
 refine wVD_rr hop Tryz.callB217 (rd_ptr ⟨argS_no rfl,argS_no rfl,argS_ro,trivial⟩) ?_
 simp[go_sem,rB,GExpr.row_eq,eo2]
 exact wret_rr (s:=outF z.2) hM
end Go.Proofs.YtajjjghohakniaaGreat
namespace Go.Proofs.YtajjjghohakniaaGreat
open Go Go.Vx
set_option maxRecDepth 100000
theorem value_w (v:GValue):Pure Tryz.prog 250 [.agg v.row] (.agg (valE v).row):=by
 refine VCalls.intro 0 Tryz.func250 Tryz.ntmps250 Tryz.results250 rfl rfl (Nat.le_of_ble_eq_true rfl) fun c hc hb=>wcode_of ?_
 simp[go_sem]
 exact wret_0 (r:= .agg [.int .i64 1,.str [],.int .i64 v.kind,.int .i64 v.n,.str v.s,.sl .ro []]) (argS_agg ⟨argC_no rfl,argC_no rfl,argC_no rfl,argC_no rfl,argC_no rfl,argC_ro,trivial⟩) ⟨rfl,rfl⟩
theorem eat_yes (L:List GToken) (hL:LIn L) (s:RS) (hs:RIn L s) (w:List UInt8) (h:isT L w s=true):VCalls Tryz.prog 68 [.ptr 0 0,.str w] [rB L s] (fun r σ=>r= .bool true∧σ= [rB L (nextF s)]):=by
 have:=eat_w L hL s hs w
 unfold eatF at this
 rw[if_pos h,h]at this
 exact this
theorem eat_no (L:List GToken) (hL:LIn L) (s:RS) (hs:RIn L s) (w:List UInt8) (h:isT L w s=false):VCalls Tryz.prog 68 [.ptr 0 0,.str w] [rB L s] (fun r σ=>r= .bool false∧σ= [rB L s]):=by
 have:=eat_w L hL s hs w
 unfold eatF at this
 rw[if_neg (by rw[h];decide),h]at this
 exact this
theorem atom_w (L:List GToken) (hL:LIn L) (rec:Nat→RS→PR) (s:RS) (hs:RIn L s) (hP:PW L rec s.opn)
  (hex: ∀s',RIn L s'→s'.opn=s.opn→VCalls Tryz.prog 161 [.ptr 0 0] [rB L s'] (RR L (rec 0 s'))):
  VCalls Tryz.prog 249 [.ptr 0 0] [rB L s] (RR L (atomK L (rec 6) (rec 0) s)):=by
 generalize hM:atomK L (rec 6) (rec 0) s=M
 unfold atomK at hM
 have htok:=tok_w L hL s hs
 have hat:=hs.at_
 have hl:=hL.len
 have ei:IntKind.i64.wrap ((s.at_:Int)+1)=((s.at_+1:Nat):Int):=by rw[i64_id (by omega) (by omega)];omega
 have hname:=name_w L hL s hs
 refine VCalls.intro 1 Tryz.func249 Tryz.ntmps249 Tryz.results249 rfl rfl (Nat.le_of_ble_eq_true rfl) fun c hc hb=>wcode_of ?_
 by_cases q1:isT L [45] s=true
 ·rw[if_pos q1]at hM
  have heat:=eat_yes L hL s hs _ q1
  have hnx:=hs.next hL q1
  have hy:=hP.ok 6 (nextF s) hnx rfl
  have hcy:=hP.unary (nextF s) hnx rfl
  generalize rec 6 (nextF s)=y at hy hcy hM
  have hop:=op_w L y.2 (tokF L s).place [78,69,71] [y.1] (by simp) (wide_1 hy.wide) (fun he=>by
   have h1:=(hy.err he).2
   simp only[deepsF]
   omega)
  generalize opF (tokF L s).place [78,69,71] [y.1] y.2=z at hop hM
  simp only[List.map_cons,List.map_nil,GExpr.row_eq]at hop
  simp[go_sem]
  refine wVC_rd htok Tryz.callB70 rd_1 rfl ?_
  simp[go_sem]
  refine wVC_rd heat Tryz.callB68 (rd_ptr ⟨argS_no rfl,trivial⟩) rfl ?_
  simp[go_sem]
  refine wdraw_but [(4,3),(6,3)] 1 3 (by simp) (by kernel_rfl) (by kernel_rfl) ?_
  simp[go_sem]
  refine wVD_rr hcy Tryz.callB248 rd_1 ?_
  simp[go_sem,GExpr.row_eq]
  refine wVD_rr hop Tryz.callB217 (rd_ptr ⟨argS_no rfl,argS_no rfl,argS_ro,trivial⟩) ?_
  simp[go_sem,GExpr.row_eq]
  exact wret_rr hM.symm
 have q1:isT L [45] s=false:=by simpa using q1
 rw[if_neg (by rw[q1];decide)]at hM
 have heat1:=eat_no L hL s hs _ q1
 by_cases q2:isT L [40] s=true
 ·rw[if_pos q2]at hM
  have heat2:=eat_yes L hL s hs _ q2
  have hnx:=hs.next hL q2
  have hy:=hP.ok 0 (nextF s) hnx rfl
  have hcy:=hex (nextF s) hnx rfl
  generalize rec 0 (nextF s)=y at hy hcy hM
  have hmu:=must_w L hL y.2 hy.rin [41]
  generalize mustF L [41] y.2=u at hmu hM
  simp[go_sem]
  refine wVC_rd htok Tryz.callB70 rd_1 rfl ?_
  simp[go_sem]
  refine wVC_rd heat1 Tryz.callB68 (rd_ptr ⟨argS_no rfl,trivial⟩) rfl ?_
  simp[go_sem]
  refine wVC_rd heat2 Tryz.callB68 (rd_ptr ⟨argS_no rfl,trivial⟩) rfl ?_
  simp[go_sem]
  refine wVC_rr hcy Tryz.callB161 rd_1 ?_
  simp[go_sem,GExpr.row_eq]
  refine wVC_rd hmu Tryz.callB71 (rd_ptr ⟨argS_no rfl,trivial⟩) rfl ?_
  simp[go_sem,GExpr.row_eq]
  exact wret_rr hM.symm
 have q2:isT L [40] s=false:=by simpa using q2
 rw[if_neg (by rw[q2];decide)]at hM
 have heat2:=eat_no L hL s hs _ q2
 simp[go_sem]
 refine wVC_rd htok Tryz.callB70 rd_1 rfl ?_
 simp[go_sem]
 refine wVC_rd heat1 Tryz.callB68 (rd_ptr ⟨argS_no rfl,trivial⟩) rfl ?_
 simp[go_sem]
 refine wVC_rd heat2 Tryz.callB68 (rd_ptr ⟨argS_no rfl,trivial⟩) rfl ?_
 simp[go_sem]
 by_cases q3:isT L [84,82,85,69] s=true
 ·rw[if_pos q3]at hM
  have hv:=value_w ⟨1,1,[]⟩
  simp only[GExpr.row_eq,GValue.row]at hv
  refine wVC_rd (eat_yes L hL s hs _ q3) Tryz.callB68 (rd_ptr ⟨argS_no rfl,trivial⟩) rfl ?_
  simp[go_sem]
  refine wVC_pure hv Tryz.callB250 (args_no rfl) rfl ?_
  simp[go_sem]
  exact wret_rr (e:=valE ⟨1,1,[]⟩) (s:=nextF s) hM.symm
 have q3:isT L [84,82,85,69] s=false:=by simpa using q3
 rw[if_neg (by rw[q3];decide)]at hM
 refine wVC_rd (eat_no L hL s hs _ q3) Tryz.callB68 (rd_ptr ⟨argS_no rfl,trivial⟩) rfl ?_
 simp[go_sem]
 by_cases q4:isT L [70,65,76,83,69] s=true
 ·rw[if_pos q4]at hM
  have hv:=value_w ⟨1,0,[]⟩
  simp only[GExpr.row_eq,GValue.row]at hv
  refine wVC_rd (eat_yes L hL s hs _ q4) Tryz.callB68 (rd_ptr ⟨argS_no rfl,trivial⟩) rfl ?_
  simp[go_sem]
  refine wVC_pure hv Tryz.callB250 (args_no rfl) rfl ?_
  simp[go_sem]
  exact wret_rr (e:=valE ⟨1,0,[]⟩) (s:=nextF s) hM.symm
 have q4:isT L [70,65,76,83,69] s=false:=by simpa using q4
 rw[if_neg (by rw[q4];decide)]at hM
 refine wVC_rd (eat_no L hL s hs _ q4) Tryz.callB68 (rd_ptr ⟨argS_no rfl,trivial⟩) rfl ?_
 simp[go_sem]
 by_cases q5:isT L wNULL s=true
 ·rw[if_pos q5]at hM
  have hv:=value_w ⟨0,0,[]⟩
  simp only[GExpr.row_eq,GValue.row]at hv
  refine wVC_rd (eat_yes L hL s hs _ q5) Tryz.callB68 (rd_ptr ⟨argS_no rfl,trivial⟩) rfl ?_
  simp[go_sem]
  refine wVC_pure hv Tryz.callB250 (args_no rfl) rfl ?_
  simp[go_sem]
  exact wret_rr (e:=valE ⟨0,0,[]⟩) (s:=nextF s) hM.symm
 have q5:isT L wNULL s=false:=by simpa using q5
 rw[if_neg (by rw[q5];decide)]at hM
 refine wVC_rd (eat_no L hL s hs _ q5) Tryz.callB68 (rd_ptr ⟨argS_no rfl,trivial⟩) rfl ?_
 simp[go_sem]
 obtain⟨t,ht⟩: ∃t,tokF L s=t:=⟨_,rfl⟩
 rw[ht]at hM
 rw[ht]
 by_cases q6:t.kind=2
 ·rw[if_pos q6]at hM
  have hv:=value_w ⟨2,t.n,[]⟩
  simp only[GExpr.row_eq,GValue.row]at hv
  have q6':(t.kind==2)=true:=by simpa using q6
  simp[go_sem,q6',rB,ei]
  refine wVC_pure hv Tryz.callB250 (args_no rfl) rfl ?_
  simp[go_sem]
  exact wret_rr (e:=valE ⟨2,t.n,[]⟩) (s:=nextF s) hM.symm
 rw[if_neg q6]at hM
 have q6':(t.kind==2)=false:=by simpa using q6
 simp[go_sem,q6']
 by_cases q7:t.kind=3
 ·rw[if_pos q7]at hM
  have hv:=value_w ⟨3,0,t.s⟩
  simp only[GExpr.row_eq,GValue.row]at hv
  have q7':(t.kind==3)=true:=by simpa using q7
  simp[go_sem,q7',rB,ei]
  refine wVC_pure hv Tryz.callB250 (args_no rfl) rfl ?_
  simp[go_sem]
  exact wret_rr (e:=valE ⟨3,0,t.s⟩) (s:=nextF s) hM.symm
 rw[if_neg q7]at hM
 have q7':(t.kind==3)=false:=by simpa using q7
 simp[go_sem,q7']
 refine wVC_rd hname Tryz.callB117 rd_1 rfl ?_
 simp[go_sem]
 exact wret_rg (e:=namE (nameF L s).1) (s:=(nameF L s).2) hM.symm
theorem unary_w (L:List GToken) (hL:LIn L) (rec:Nat→RS→PR) (s:RS) (hs:RIn L s) (h2:s.opn≤200) (hrec:s.opn+1≤200→PW L rec (s.opn+1))
  (hex:s.opn+1≤200→ ∀s',RIn L s'→s'.opn=s.opn+1→VCalls Tryz.prog 161 [.ptr 0 0] [rB L s'] (RR L (rec 0 s'))):
  VCalls Tryz.prog 248 [.ptr 0 0] [rB L s] (RR L (ruled L (bodyF L rec 6) s)):=by
 have hr:=rule_w L hL s hs (by omega)
 have hrin:=ruleS_in hs h2
 have hro:=ruleS_opn (L:=L) s
 have hre:=ruleS_err (L:=L) (s:=s)
 have ho:=hs.opn
 have hM:ruled L (bodyF L rec 6) s=if(ruleS L s).err=0 then((atomK L (rec 6) (rec 0) (ruleS L s)).1,outF (atomK L (rec 6) (rec 0) (ruleS L s)).2)else(zeroE,outF (ruleS L s)):=rfl
 generalize ruled L (bodyF L rec 6) s=M at hM⊢
 generalize ruleS L s=s1 at hr hrin hro hre hM
 have eo:=out_i64 (o:=s1.opn) (by omega) (by omega)
 refine VCalls.intro 1 Tryz.func248 Tryz.ntmps248 Tryz.results248 rfl rfl (Nat.le_of_ble_eq_true rfl) fun c hc hb=>wcode_of ?_
 by_cases q1:s1.err=0
 rotate_left
 ·have q1':(s1.err==0)=false:=by simpa using q1
  rw[if_neg q1]at hM
  rw[q1']at hr
  simp[go_sem]
  refine wVC_rd hr Tryz.callB214 rd_1 rfl ?_
  simp[go_sem,rB,eo]
  exact wret_rg (e:=zeroE) (s:=outF s1) hM
 have q1':(s1.err==0)=true:=by simpa using q1
 rw[if_pos q1]at hM
 rw[q1']at hr
 have h200:=(hre q1).2
 have hP:PW L rec s1.opn:=by rw[hro];exact hrec h200
 have hok:=atomK_ok hL (hP.ok 6) (hP.ok 0) s1 hrin rfl
 have hcy:=atom_w L hL rec s1 hrin hP (fun s' h1 h2=>hex h200 s' h1 (by rw[h2,hro]))
 generalize atomK L (rec 6) (rec 0) s1=z at hok hcy hM
 have eo2:IntKind.i64.wrap (z.2.opn - 1)=z.2.opn - 1:=by rw[hok.opn];exact eo
 simp[go_sem]
 refine wVC_rd hr Tryz.callB214 rd_1 rfl ?_
 simp[go_sem]
 refine wVC_rr hcy Tryz.callB249 rd_1 ?_
 simp[go_sem,rB,GExpr.row_eq,eo2]
 exact wret_rr (s:=outF z.2) hM
theorem expr_of (L:List GToken) (s:RS) (x:PR) (hc0:VCalls Tryz.prog 189 [.ptr 0 0,.int .i64 0] [rB L s] (RR L x)):VCalls Tryz.prog 161 [.ptr 0 0] [rB L s] (RR L x):=by
 refine VCalls.intro 1 Tryz.func161 Tryz.ntmps161 Tryz.results161 rfl rfl (Nat.le_of_ble_eq_true rfl) fun c hc hb=>wcode_of ?_
 simp[go_sem]
 refine wVC_rr hc0 Tryz.callB189 (rd_ptr ⟨argS_no rfl,trivial⟩) ?_
 simp[go_sem,GExpr.row_eq]
 exact wret_rr rfl
theorem rules_w (L:List GToken) (hL:LIn L): ∀(f:Nat) (o:Int),o≤200→201≤(f:Int)+o→PW L (pF L f) o
 |0,o,h,hf=>by omega
 |f+1,o,h,hf=>by
  have ih: ∀s:RS,s.opn=o→s.opn+1≤200→PW L (pF L f) (s.opn+1):=fun s hs h1=>rules_w L hL f (s.opn+1) h1 (by push_cast at hf;omega)
  have iex: ∀s:RS,s.opn=o→s.opn+1≤200→ ∀s',RIn L s'→s'.opn=s.opn+1→VCalls Tryz.prog 161 [.ptr 0 0] [rB L s'] (RR L (pF L f 0 s')):=fun s hs h1 s' h2 h3=>expr_of L s' _ ((ih s hs h1).chain 0 (Nat.zero_le _) s' h2 h3)
  refine⟨fun w s hs ho=>pF_ok hL (f+1) w s hs (by omega) (by push_cast at hf⊢;omega),fun k hk s hs ho=> ?_,fun s hs ho=> ?_,fun s hs ho=> ?_,fun s hs ho=> ?_,fun s hs ho=> ?_,fun s hs ho=> ?_⟩
  ·have hk:k=0∨k=1:=by omega
   rcases hk with rfl|rfl
   ·exact chain0_w L hL (pF L f) s hs (by omega) (ih s ho)
   ·exact chain1_w L hL (pF L f) s hs (by omega) (ih s ho)
  ·exact not_w L hL (pF L f) s hs (by omega) (ih s ho)
  ·exact cmp_w L hL (pF L f) s hs (by omega) (ih s ho)
  ·exact sum_w L hL (pF L f) s hs (by omega) (ih s ho)
  ·exact prod_w L hL (pF L f) s hs (by omega) (ih s ho)
  ·exact unary_w L hL (pF L f) s hs (by omega) (ih s ho) (iex s ho)
def exF (L:List GToken) (s:RS):PR:=pF L 201 0 s
theorem ex_ok {L:List GToken} (hL:LIn L) {s:RS} (hs:RIn L s) (ho:s.opn=0):PI L s (exF L s):=pF_ok hL 201 0 s hs (by omega) (by omega)
theorem ex_w (L:List GToken) (hL:LIn L) (s:RS) (hs:RIn L s) (ho:s.opn=0):VCalls Tryz.prog 161 [.ptr 0 0] [rB L s] (RR L (exF L s)):=
 expr_of L s _ ((rules_w L hL 201 0 (by decide) (by decide)).chain 0 (Nat.zero_le _) s hs ho)
end Go.Proofs.YtajjjghohakniaaGreat
namespace Go.Proofs.YtajjjghohakniaaGreat
open Go Go.Vx
set_option maxRecDepth 100000
mutual
def sizeF:GExpr→Nat
 | .mk _ _ _ args=>sizesF args+1
def sizesF:List GExpr→Nat
 | []=>0
 |e::l=>sizeF e+sizesF l
end
theorem sizeF_eq (e:GExpr):sizeF e=sizesF e.args+1:=by cases e;rw[sizeF];rfl
inductive Good:GExpr→Prop
 |mk (e:GExpr) (hk:i64R e.kind) (hs:e.s.length≤1048576) (hv:e.v.ok) (hn:e.v.s.length≤1048576) (ha: ∀x∈e.args,Good x):Good e
theorem Good.k {e:GExpr} (h:Good e):i64R e.kind:=by cases h;assumption
theorem Good.str {e:GExpr} (h:Good e):e.s.length≤1048576:=by cases h;assumption
theorem Good.v {e:GExpr} (h:Good e):e.v.ok:=by cases h;assumption
theorem Good.vs {e:GExpr} (h:Good e):e.v.s.length≤1048576:=by cases h;assumption
theorem Good.sub {e:GExpr} (h:Good e): ∀x∈e.args,Good x:=by cases h;assumption
theorem noV_ok:(⟨0,0,[]⟩:GValue).ok:=⟨by decide,by decide,by decide⟩
theorem intV_ok {n:Int} (h:0≤n∧n≤9223372036854775807):(⟨2,n,[]⟩:GValue).ok:=⟨by simp only;omega,by simp only;omega,Nat.zero_le _⟩
theorem txtV_ok {s:List UInt8} (h:s.length≤1048576):(⟨3,0,s⟩:GValue).ok:=⟨by simp only;omega,by simp only;omega,by simp only[maxLen];omega⟩
theorem good_op {w:List UInt8} {a:List GExpr} (h:w.length≤1048576) (ha: ∀x∈a,Good x):Good (opE w a):= .mk _ (by show i64R 3;unfold i64R;decide) h noV_ok (Nat.zero_le _) ha
theorem good_val {v:GValue} (h:v.ok) (h2:v.s.length≤1048576):Good (valE v):= .mk _ (by show i64R 1;unfold i64R;decide) (Nat.zero_le _) h h2 (fun x hx=>by cases hx)
theorem good_nam {w:List UInt8} (h:w.length≤1048576):Good (namE w):= .mk _ (by show i64R 2;unfold i64R;decide) h noV_ok (Nat.zero_le _) (fun x hx=>by cases hx)
theorem good_0:Good zeroE:= .mk _ (by show i64R 0;unfold i64R;decide) (Nat.zero_le _) noV_ok (Nat.zero_le _) (fun x hx=>by cases hx)
theorem good_1 {x:GExpr} (h:Good x): ∀e∈ [x],Good e:=fun e he=>by
 simp only[List.mem_cons,List.not_mem_nil,or_false]at he
 subst he
 exact h
theorem good_2 {x y:GExpr} (h:Good x) (h2:Good y): ∀e∈ [x,y],Good e:=fun e he=>by
 simp only[List.mem_cons,List.not_mem_nil,or_false]at he
 rcases he with rfl|rfl
 ·exact h
 ·exact h2
structure LGood (L:List GToken):Prop where
 txt: ∀t∈L,t.s.length≤1048576
 num: ∀t∈L,0≤t.n∧t.n≤9223372036854775807
variable {L:List GToken}
theorem tokF_mem {s:RS} (hs:RIn L s):tokF L s∈L:=by
 unfold tokF
 rw[List.getD_eq_getElem?_getD,List.getElem?_eq_getElem hs.at_]
 exact List.getElem_mem _
theorem isT_len (hG:LGood L) {w:List UInt8} {s:RS} (hs:RIn L s) (h:isT L w s=true):w.length≤1048576:=by
 have:=hG.txt _ (tokF_mem hs)
 unfold isT at h
 simp only[Bool.and_eq_true,beq_iff_eq]at h
 rw[←h.2.2]
 exact this
theorem nameF_len (hG:LGood L) {s:RS} (hs:RIn L s):(nameF L s).1.length≤1048576:=by
 unfold nameF
 split
 ·exact hG.txt _ (tokF_mem hs)
 ·exact Nat.zero_le _
structure PJ (s:RS) (x:PR):Prop where
 good:Good x.1
 size:x.2.err=0→sizeF x.1+s.at_≤x.2.at_
abbrev PK (L:List GToken) (s:RS) (x:PR):Prop:=PI L s x∧PJ s x
theorem size_op (w:List UInt8) (a:List GExpr):sizeF (opE w a)=sizesF a+1:=sizeF_eq _
theorem size_1 (x:GExpr):sizesF [x]=sizeF x:=by simp[sizesF]
theorem size_2 (x y:GExpr):sizesF [x,y]=sizeF x+sizeF y:=by simp[sizesF]
theorem size_leaf {e:GExpr} (h:e.args= []):sizeF e=1:=by rw[sizeF_eq,h];rfl
theorem PJ_op {s0 s:RS} (p:Int) {w:List UInt8} {a:List GExpr} (h1:w.length≤1048576) (h2: ∀x∈a,Good x) (h3:s.err=0→sizesF a+1+s0.at_≤s.at_):PJ s0 (opF p w a s):=
 ⟨good_op h1 h2,fun he=>by
  have h:=opS_err (p:=p) (w:=w) (a:=a) (s:=s) he
  show sizeF (opE w a)+s0.at_≤(opS p w a s).at_
  rw[opS_at,size_op]
  exact h3 h.1⟩
theorem opsF_j (hL:LIn L) (hG:LGood L) {o:Int} {sub:RS→PR} (hsub: ∀s,RIn L s→s.opn=o→PK L s (sub s)) (ws:List (List UInt8)) {s0:RS}: ∀(n:Nat) (x:PR),PK L s0 x→s0.opn=o→PJ s0 (opsF L ws sub n x)
 |0,x,h,_=>h.2
 |n+1,x,h,ho=>by
  have hstep:=opsF_ok hL (fun s h1 h2=>(hsub s h1 h2).1) ws 1 x h.1 ho
  unfold opsF
  unfold opsF at hstep
  split
  ·exact h.2
  rename_i hne
  rw[if_neg hne]at hstep
  have hi:=anyF_is hne
  have hx:=h.1.opn
  have hy:=hsub (nextF x.2) (h.1.rin.next hL hi) (by show x.2.opn=o;rw[hx,ho])
  have hl:=isT_len hG h.1.rin hi
  have hstep:PI L s0 (opF (tokF L x.2).place (anyF L x.2 ws) [x.1,(sub (nextF x.2)).1] (sub (nextF x.2)).2):=hstep
  refine opsF_j hL hG hsub ws n _ ⟨hstep,PJ_op _ hl (good_2 h.2.good hy.2.good) (fun he=> ?_)⟩ ho
  have h1:=hy.2.size he
  have h2:=h.2.size (hy.1.err he).1
  rw[nextF_at]at h1
  rw[size_2]
  omega
theorem notK_j (hL:LIn L) (hG:LGood L) {o:Int} {rn rc:RS→PR} (h1: ∀s,RIn L s→s.opn=o→PK L s (rn s)) (h2: ∀s,RIn L s→s.opn=o→PK L s (rc s)) (s:RS) (hs:RIn L s) (ho:s.opn=o):PJ s (notK L rn rc s):=by
 unfold notK
 split
 ·rename_i hi
  have hy:=h1 (nextF s) (hs.next hL hi) ho
  refine PJ_op _ (by decide) (good_1 hy.2.good) (fun he=> ?_)
  have h:=hy.2.size he
  rw[nextF_at]at h
  rw[size_1]
  omega
 ·exact(h2 s hs ho).2
theorem cmpJ_j (hL:LIn L) (hG:LGood L) {o:Int} {sub:RS→PR} (hsub: ∀s,RIn L s→s.opn=o→PK L s (sub s)) (s:RS) (ho:s.opn=o) (x:PR) (h:PK L s x):PJ s (cmpJ L sub x):=by
 have hx:=h.1.opn
 unfold cmpJ
 split
 ·rename_i hi
  split
  ·rename_i hi2
   refine PJ_op _ (by decide) (good_1 h.2.good) (fun he=> ?_)
   have h1:=h.2.size (mustF_err he).1
   have h2:=mustF_up (L:=L) wNULL (nextF (nextF x.2))
   simp only[nextF_at]at h2
   rw[size_1]
   omega
  ·refine PJ_op _ (by decide) (good_1 h.2.good) (fun he=> ?_)
   have h1:=h.2.size (mustF_err he).1
   have h2:=mustF_up (L:=L) wNULL (nextF x.2)
   simp only[nextF_at]at h2
   rw[size_1]
   omega
 ·split
  ·exact h.2
  rename_i hne
  have hi:=anyF_is hne
  have hy:=hsub (nextF x.2) (h.1.rin.next hL hi) (by show x.2.opn=o;rw[hx,ho])
  have hl:=isT_len hG h.1.rin hi
  refine PJ_op _ hl (good_2 h.2.good hy.2.good) (fun he=> ?_)
  have h1:=hy.2.size he
  have h2:=h.2.size (hy.1.err he).1
  rw[nextF_at]at h1
  rw[size_2]
  omega
theorem PJ_leaf {s s2:RS} {e:GExpr} (ha:e.args= []) (h:Good e) (h2:s2.err=0→s2.at_=s.at_+1):PJ s (e,s2):=⟨h,fun he=>by
 have:=h2 he
 simp only[size_leaf ha]
 omega⟩
theorem atomK_j (hL:LIn L) (hG:LGood L) {o:Int} {un ex:RS→PR} (h1: ∀s,RIn L s→s.opn=o→PK L s (un s)) (h2: ∀s,RIn L s→s.opn=o→PK L s (ex s)) (s:RS) (hs:RIn L s) (ho:s.opn=o):PJ s (atomK L un ex s):=by
 have hm:=tokF_mem hs
 unfold atomK
 split
 ·rename_i hi
  have hy:=h1 (nextF s) (hs.next hL hi) ho
  refine PJ_op _ (by decide) (good_1 hy.2.good) (fun he=> ?_)
  have h:=hy.2.size he
  rw[nextF_at]at h
  rw[size_1]
  omega
 split
 ·rename_i hi
  have hy:=h2 (nextF s) (hs.next hL hi) ho
  refine⟨hy.2.good,fun he=> ?_⟩
  have h:=hy.2.size (mustF_err he).1
  have h3:=mustF_up (L:=L) [41] (ex (nextF s)).2
  rw[nextF_at]at h
  show sizeF (ex (nextF s)).1+s.at_≤(mustF L [41] (ex (nextF s)).2).at_
  omega
 split
 ·exact PJ_leaf rfl (good_val ⟨by decide,by decide,by decide⟩ (Nat.zero_le _)) (fun _=>rfl)
 split
 ·exact PJ_leaf rfl (good_val ⟨by decide,by decide,by decide⟩ (Nat.zero_le _)) (fun _=>rfl)
 split
 ·exact PJ_leaf rfl (good_val noV_ok (Nat.zero_le _)) (fun _=>rfl)
 split
 ·exact PJ_leaf rfl (good_val (intV_ok (hG.num _ hm)) (Nat.zero_le _)) (fun _=>rfl)
 split
 ·exact PJ_leaf rfl (good_val (txtV_ok (hG.txt _ hm)) (hG.txt _ hm)) (fun _=>rfl)
 ·refine PJ_leaf rfl (good_nam (nameF_len hG hs)) (fun he=> ?_)
  have hb:=(nameF_err he).2
  unfold nameF
  rw[if_pos hb]
  rfl
theorem bodyF_j (hL:LIn L) (hG:LGood L) {o:Int} {rec:Nat→RS→PR} (h: ∀w s,RIn L s→s.opn=o→PK L s (rec w s)): ∀(w:Nat) (s:RS),RIn L s→s.opn=o→PJ s (bodyF L rec w s)
 |0,s,hs,ho=>opsF_j hL hG (h 1) _ _ _ (h 1 s hs ho) ho
 |1,s,hs,ho=>opsF_j hL hG (h 2) _ _ _ (h 2 s hs ho) ho
 |2,s,hs,ho=>notK_j hL hG (h 2) (h 3) s hs ho
 |3,s,hs,ho=>cmpJ_j hL hG (h 4) s ho _ (h 4 s hs ho)
 |4,s,hs,ho=>opsF_j hL hG (h 5) _ _ _ (h 5 s hs ho) ho
 |5,s,hs,ho=>opsF_j hL hG (h 6) _ _ _ (h 6 s hs ho) ho
 |w+6,s,hs,ho=>atomK_j hL hG (h 6) (h 0) s hs ho
theorem ruled_j {k:RS→PR} (s:RS) (hk:(ruleS L s).err=0→PJ (ruleS L s) (k (ruleS L s))):PJ s (ruled L k s):=by
 unfold ruled
 split
 ·rename_i he
  have hy:=hk he
  refine⟨hy.good,fun h=> ?_⟩
  have h2:=hy.size h
  rw[ruleS_at]at h2
  exact h2
 ·rename_i he
  exact⟨good_0,fun h=>absurd h he⟩
theorem pF_j (hL:LIn L) (hG:LGood L): ∀(f:Nat) (w:Nat) (s:RS),RIn L s→s.opn≤200→201≤(f:Int)+s.opn→PJ s (pF L f w s)
 |0,w,s,hs,h2,hf=>by omega
 |f+1,w,s,hs,h2,hf=>by
  unfold pF
  refine ruled_j s (fun he=> ?_)
  have h3:=(ruleS_err he).2
  exact bodyF_j hL hG (o:=s.opn+1) (fun w t ht ho=>⟨pF_ok hL f w t ht (by omega) (by push_cast at hf;omega),pF_j hL hG f w t ht (by omega) (by push_cast at hf;omega)⟩) w _ (ruleS_in hs h2) (ruleS_opn s)
theorem ex_j {L:List GToken} (hL:LIn L) (hG:LGood L) {s:RS} (hs:RIn L s) (ho:s.opn=0):PJ s (exF L s):=pF_j hL hG 201 0 s hs (by omega) (by omega)
end Go.Proofs.YtajjjghohakniaaGreat
namespace Go.Proofs.YtajjjghohakniaaGreat
open Go Go.Vx
set_option maxRecDepth 100000
structure UI (L:List GToken) (s s':RS):Prop where
 rin:RIn L s'
 opn:s'.opn=s.opn
 up:s.at_≤s'.at_
 err:s'.err=0→s.err=0
variable {L:List GToken}
theorem UI.refl {s:RS} (h:RIn L s):UI L s s:=⟨h,rfl,Nat.le_refl _,id⟩
theorem UI.trans {s s2 s3:RS} (h:UI L s s2) (k:UI L s2 s3):UI L s s3:=⟨k.rin,k.opn.trans h.opn,Nat.le_trans h.up k.up,fun e=>h.err (k.err e)⟩
theorem PI.ui {s:RS} {x:PR} (h:PI L s x):UI L s x.2:=⟨h.rin,h.opn,h.up,fun e=>(h.err e).1⟩
theorem must_ui (hL:LIn L) (w:List UInt8) {s:RS} (h:RIn L s):UI L s (mustF L w s):=⟨mustF_in hL h,mustF_opn w s,mustF_up w s,fun e=>(mustF_err e).1⟩
theorem name_ui (hL:LIn L) {s:RS} (h:RIn L s):UI L s (nameF L s).2:=⟨nameF_in hL h,nameF_opn s,nameF_up s,fun e=>(nameF_err e).1⟩
theorem next_ui (hL:LIn L) {w:List UInt8} {s:RS} (h:RIn L s) (hi:isT L w s=true):UI L s (nextF s):=⟨h.next hL hi,rfl,by simp[nextF],id⟩
theorem fail_ui (e p:Int) {s:RS} (h:RIn L s) (he:e≠0):UI L s (failF e p s):=⟨failF_in h e p,failF_opn e p s,by rw[failF_at];exact Nat.le_refl _,fun q=>absurd q (failF_err he)⟩
theorem num_ui (hL:LIn L) {s:RS} (h:RIn L s):UI L s (numF L s).2:=by
 unfold numF
 split
 ·rename_i hb
  unfold numB at hb
  simp only[Bool.and_eq_true,beq_iff_eq]at hb
  exact⟨hL.next h (by rw[hb.2];decide),rfl,by simp[nextF],id⟩
 ·exact fail_ui _ _ h (by decide)
def moreF (L:List GToken) (n most:Int) (b:Bool) (s:RS):RS:=if s.err=0∧most≤n then failF (if b=true then 3 else 13) (tokF L s).place s else s
theorem more_ui {n most:Int} {b:Bool} {s:RS} (h:RIn L s):UI L s (moreF L n most b s):=by
 unfold moreF
 split
 ·exact fail_ui _ _ h (by split<;>decide)
 ·exact UI.refl h
theorem moreF_err {n most:Int} {b:Bool} {s:RS} (h:(moreF L n most b s).err=0):s.err=0∧n<most∧moreF L n most b s=s:=by
 unfold moreF at h⊢
 split at h
 ·exact absurd h (failF_err (by split<;>decide))
 ·rename_i hc
  rw[if_neg hc]
  refine⟨h, ?_,rfl⟩
  by_cases q:most≤n
  ·exact absurd ⟨h,q⟩ hc
  ·omega
theorem more_w (L:List GToken) (hL:LIn L) (s:RS) (hs:RIn L s) (n most:Int) (b:Bool):VCalls Tryz.prog 66 [.ptr 0 0,.int .i64 n,.int .i64 most,.bool b] [rB L s] (fun r σ=>r= .bool ((moreF L n most b s).err==0)∧σ= [rB L (moreF L n most b s)]):=by
 have ht:=tok_w L hL s hs
 have hf3:=fail_w L s 3 (tokF L s).place
 have hf13:=fail_w L s 13 (tokF L s).place
 have hM:moreF L n most b s=if s.err=0∧most≤n then(if b=true then failF 3 (tokF L s).place s else failF 13 (tokF L s).place s)else s:=by unfold moreF;cases b<;>rfl
 generalize moreF L n most b s=M at hM⊢
 have e3:(failF 3 (tokF L s).place s).err≠0:=failF_err (by decide)
 have e13:(failF 13 (tokF L s).place s).err≠0:=failF_err (by decide)
 generalize failF 3 (tokF L s).place s=f3 at*
 generalize failF 13 (tokF L s).place s=f13 at*
 refine VCalls.intro 1 Tryz.func66 Tryz.ntmps66 Tryz.results66 rfl rfl (Nat.le_of_ble_eq_true rfl) fun c hc hb=>wcode_of ?_
 simp[go_sem,rB]
 by_cases q1:s.err=0
 rotate_left
 ·have q1':(s.err==0)=false:=by simpa using q1
  rw[if_neg (fun h=>q1 h.1)]at hM
  simp[go_sem,q1']
  exact wret_rd (L:=L) (s:=s) (argS_no rfl) ⟨by rw[hM,q1'],by rw[hM];rfl⟩
 have q1':(s.err==0)=true:=by simpa using q1
 by_cases q2:most≤n
 rotate_left
 ·have q2':decide (most≤n)=false:=decide_eq_false q2
  rw[if_neg (fun h=>q2 h.2)]at hM
  simp[go_sem,q1',q2']
  exact wret_rd (L:=L) (s:=s) (argS_no rfl) ⟨by rw[hM,q1'],by rw[hM];rfl⟩
 have q2':decide (most≤n)=true:=decide_eq_true q2
 rw[if_pos ⟨q1,q2⟩]at hM
 simp[go_sem,q1',q2']
 refine(Bool.eq_false_or_eq_true b).elim (fun q=> ?_) (fun q=> ?_)
 ·rw[if_pos q]at hM
  have e3':(f3.err==0)=false:=by simpa using e3
  subst q
  simp[go_sem]
  refine wVC_rd ht Tryz.callB70 rd_1 rfl ?_
  simp[go_sem]
  refine wVC_rd hf3 Tryz.callB73 (rd_ptr ⟨argS_no rfl,argS_no rfl,trivial⟩) rfl ?_
  simp[go_sem,rB]
  exact wret_rd (L:=L) (s:=f3) (argS_no rfl) ⟨by rw[hM],by rw[hM];rfl⟩
 ·rw[if_neg (by rw[q];decide)]at hM
  subst q
  simp[go_sem]
  refine wVC_rd ht Tryz.callB70 rd_1 rfl ?_
  simp[go_sem]
  refine wVC_rd hf13 Tryz.callB73 (rd_ptr ⟨argS_no rfl,argS_no rfl,trivial⟩) rfl ?_
  simp[go_sem,rB]
  exact wret_rd (L:=L) (s:=f13) (argS_no rfl) ⟨by rw[hM],by rw[hM];rfl⟩
def wCOUNT:List UInt8:= [67,79,85,78,84]
def wSUM:List UInt8:= [83,85,77]
def signsB:List (List UInt8):= [[45],[40],[78,79,84],[84,82,85,69],[70,65,76,83,69],[78,85,76,76]]
def begF (L:List GToken) (item:Bool) (s:RS):Bool:=
 ((tokF L s).kind==2||((tokF L s).kind==3||((tokF L s).kind==1&&wordF (tokF L s).s)))||((item&&(isT L wCOUNT s||isT L wSUM s))|| !(anyF L s signsB== []))
theorem begins_w (L:List GToken) (hL:LIn L) (s:RS) (hs:RIn L s) (item:Bool):VCalls Tryz.prog 160 [.ptr 0 0,.bool item] [rB L s] (fun r σ=>r= .bool (begF L item s)∧σ= [rB L s]):=by
 have ht:=tok_w L hL s hs
 have h1:=is_w L hL s hs wCOUNT
 have h2:=is_w L hL s hs wSUM
 have h3:=any_w L hL s hs signsB (by decide)
 have htl:=hL.txt _ (tokF_mem hs)
 have hw:=refWord_w (tokF L s).s htl
 generalize hM:begF L item s=M
 unfold begF at hM
 generalize isT L wCOUNT s=c1 at h1 hM
 generalize isT L wSUM s=c2 at h2 hM
 generalize anyF L s signsB=a at h3 hM
 generalize wordF (tokF L s).s=b at hw hM
 have hae:(a != [])= !a.isEmpty:=by cases a<;>rfl
 have hae2:(a== [])=a.isEmpty:=by cases a<;>rfl
 rw[hae2]at hM
 have ret: ∀(r:Bool) (τ:St),r=M→wret (some (.bool r)) 1 (fun r σ=>r= .bool M∧σ= [rB L s]) (rB L s::τ):=fun r τ h=>by subst h;exact wret_rd (argS_no rfl) ⟨rfl,rfl⟩
 refine VCalls.intro 1 Tryz.func160 Tryz.ntmps160 Tryz.results160 rfl rfl (Nat.le_of_ble_eq_true rfl) fun c hc hb=>wcode_of ?_
 simp[go_sem]
 refine wVC_rd ht Tryz.callB70 rd_1 rfl ?_
 simp[go_sem]
 repeat' (first
  |(refine wgrd_i (fun q=> ?_) (fun q=> ?_)<;>simp[go_sem,q])
  |(refine wcond_i (fun q=> ?_) (fun q=> ?_)<;>simp[go_sem,q])
  |(refine wVC_pure hw Tryz.callB147 (args_no rfl) rfl ?_;simp[go_sem])
  |(refine wVC_rd h1 Tryz.callB69 (rd_ptr ⟨argS_no rfl,trivial⟩) rfl ?_;simp[go_sem])
  |(refine wVC_rd h2 Tryz.callB69 (rd_ptr ⟨argS_no rfl,trivial⟩) rfl ?_;simp[go_sem])
  |(refine wVC_rd h3 Tryz.callB65 (rd_ptr ⟨argS_ro,trivial⟩) rfl ?_;simp[go_sem]))
 all_goals exact ret _ _ (by rw[←hM];simp_all)
end Go.Proofs.YtajjjghohakniaaGreat
