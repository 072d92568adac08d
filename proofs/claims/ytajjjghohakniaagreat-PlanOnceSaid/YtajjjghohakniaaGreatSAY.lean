/-
  The document's lexer: texts and single tokens, over trees (the library Vx); used by the theorem at the end of the claim.
  Conditions: as each theorem states them.
-/
import Derived.Test.YtajjjghohakniaaGreatSAX
namespace Go.Proofs.YtajjjghohakniaaGreat
open Go Go.Vx
set_option maxRecDepth 100000
variable {L:List GToken}
def isName (L:List GToken) (s:RS):Bool:=(tokF L s).kind==1&&wordF (tokF L s).s
def wSET:List UInt8:= [83,69,84]
def setsL (L:List GToken):Nat→List GAssign→RS→Bool×List GAssign×RS
 |0,l,s=>(false,l,s)
 |n+1,l,s=>
  if(moreF L l.length 6 (isName L s) s).err=0 then
   (if isT L [44] (exF L (mustF L [61] (nameF L s).2)).2=true then setsL L n (l++ [⟨(nameF L s).1,(exF L (mustF L [61] (nameF L s).2)).1⟩]) (nextF (exF L (mustF L [61] (nameF L s).2)).2)
   else(true,l++ [⟨(nameF L s).1,(exF L (mustF L [61] (nameF L s).2)).1⟩],(exF L (mustF L [61] (nameF L s).2)).2))
  else(false,l,moreF L l.length 6 (isName L s) s)
def updatesF (L:List GToken) (s:RS):GStmt×RS:=
 let n:=nameF L s
 let r:=setsL L 7 [] (mustF L wSET n.2)
 if r.1=true then(⟨3,n.1,[],[],r.2.1,(whE L r.2.2).1,(whE L r.2.2).2,[],false,0⟩,whS L r.2.2)
 else(⟨3,n.1,[],[],r.2.1,false,zeroE,[],false,0⟩,r.2.2)
theorem setsL_ui (hL:LIn L): ∀(n:Nat) (l:List GAssign) (s:RS),RIn L s→s.opn=0→UI L s (setsL L n l s).2.2
 |0,_,_,h,_=>UI.refl h
 |n+1,l,s,h,ho=>by
  unfold setsL
  split
  ·have h1:=name_ui hL h
   have h2:=h1.trans (must_ui hL [61] h1.rin)
   have h3:=h2.trans (ex_ui hL h2.rin (h2.opn.trans ho))
   split
   ·have h4:=h3.trans (next_ui hL h3.rin ‹_›)
    exact h4.trans (setsL_ui hL n _ _ h4.rin (h4.opn.trans ho))
   ·exact h3
  ·exact more_ui h
theorem updates_ui (hL:LIn L) {s:RS} (h:RIn L s) (ho:s.opn=0):UI L s (updatesF L s).2:=by
 unfold updatesF
 have h1:=name_ui hL h
 have h2:=h1.trans (must_ui hL wSET h1.rin)
 have h3:=h2.trans (setsL_ui hL 7 [] _ h2.rin (h2.opn.trans ho))
 simp only
 split
 ·exact h3.trans (wh_ui hL h3.rin (h3.opn.trans ho))
 ·exact h3
def upB (nm:List UInt8) (l:List GAssign):Ob:= .box [.int .i64 3,.str nm,.sl .full [],.sl .full [],.sl (.app 3) (l.map GAssign.row),.bool false,.int .i64 0,.str [],.int .i64 0,.int .i64 0,.str [],.sl .full [],.str [],.bool false,.int .i64 0]
set_option maxHeartbeats 2000000 in
theorem updates_w (L:List GToken) (hL:LIn L) (s0:RS) (hs0:RIn L s0) (ho0:s0.opn=0):VCalls Tryz.prog 116 [.ptr 0 0] [rB L s0] (RT L (updatesF L s0)):=by
 generalize hM:updatesF L s0=M
 unfold updatesF at hM
 have hn:=name_w L hL s0 hs0
 have hu2:=name_ui hL hs0
 generalize nameF L s0=n at hn hu2 hM
 obtain⟨nm,s2⟩:=n
 simp only at hn hu2 hM
 have hm2:=must_w L hL s2 hu2.rin wSET
 have hu3:=hu2.trans (must_ui hL wSET hu2.rin)
 generalize mustF L wSET s2=s3 at hm2 hu3 hM
 obtain⟨X,hX⟩: ∃X,setsL L 7 [] s3=X:=⟨_,rfl⟩
 rw[hX]at hM
 refine VCalls.introV 1 Tryz.func116 Tryz.ntmps116 Tryz.results116 rfl rfl (Nat.le_of_ble_eq_true rfl) fun c hc hb=> ?_
 refine wVW_code ?_
 simp[go_sem]
 refine wVC_rd hn Tryz.callB117 rd_1 rfl ?_
 simp[go_sem]
 refine wVC_rd hm2 Tryz.callB71 (rd_ptr ⟨argS_no rfl,trivial⟩) rfl ?_
 simp[go_sem]
 refine wVW_appB 2 4 7 _ (by decide) rfl rfl ?_
 simp only[List.set_cons_succ,List.set_cons_zero]
 refine wVW_while (S:=List GAssign×RS) [0,2,3] (fun u=> [.ptr 0 0,.ptr 1 0,.ptr 2 0]) (fun u=> [rB L u.2,zSt,upB nm u.1,.app u.1.length 7]) (fun u=>7 - u.1.length) (fun u=>u.1.length≤6∧UI L s0 u.2∧setsL L (7 - u.1.length) u.1 u.2=X) hc hb ([],s3) ⟨Nat.zero_le _,hu3,hX⟩ ?_ ?_
 ·exact at_n 4 (by simp[go_sem];exact⟨rfl,rfl⟩) rfl (by simp[rB,zSt,upB,ltOb,ltC,ltK]) (by decide) (args_lt_eq (by simp[go_sem]) rfl)
 rintro⟨l,s⟩ ⟨hl,hu,hinv⟩
 simp only at hl hu hinv
 have hs:=hu.rin
 have ho:=hu.opn.trans ho0
 have htok:=tok_w L hL s hs
 have hwd:=refWord_w (tokF L s).s (hL.txt _ (tokF_mem hs))
 have hmore:=more_w L hL s hs l.length 6 (isName L s)
 have hme:=moreF_err (L:=L) (n:=l.length) (most:=6) (b:=isName L s) (s:=s)
 rw[show 7 - l.length=(6 - l.length)+1 by omega,setsL]at hinv
 generalize hbg:isName L s=bg at hmore hme hinv
 unfold isName at hbg
 have hn1:=name_w L hL s hs
 have hun:=hu.trans (name_ui hL hs)
 generalize tokF L s=tk at htok hwd hbg
 generalize wordF tk.s=wd at hwd hbg
 generalize moreF L l.length 6 bg s=m at hmore hme hinv
 have key:((tk.kind==1)=true∧wd=bg)∨((tk.kind==1)=false∧false=bg):=by
  revert hbg
  cases tk.kind==1<;>simp
 by_cases q:m.err=0
 rotate_left
 ·have q':(m.err==0)=false:=by simpa using q
  rw[if_neg q]at hinv
  rw[q']at hmore
  have hX1:X.1=false:=by rw[←hinv]
  have hX2:X.2.1=l:=by rw[←hinv]
  have hX3:X.2.2=m:=by rw[←hinv]
  rw[if_neg (by rw[hX1];decide),hX2,hX3]at hM
  refine wVW_code ?_
  simp[go_sem]
  refine wVC_rd htok Tryz.callB70 rd_1 rfl ?_
  simp[go_sem,upB]
  refine wdraw_but [(10,0),(12,3)] 1 5 (by simp) (by kernel_rfl) (by kernel_rfl) ?_
  simp[go_sem]
  refine key.elim (fun⟨k1,k2⟩=> ?_) (fun⟨k1,k2⟩=> ?_)
  ·simp[go_sem,k1]
   refine wVD_pure hwd Tryz.callB147 (fun _=>args_no rfl) rfl ?_
   simp[go_sem,k2]
   refine wVD_rd hmore Tryz.callB66 (rd_ptr ⟨argS_no rfl,argS_no rfl,argS_no rfl,trivial⟩) rfl ?_
   simp[go_sem]
   exact wret_st (st:=⟨3,nm,[],[],l,false,zeroE,[],false,0⟩) hM
  ·rw[←k2]at hmore
   simp[go_sem,k1]
   refine wVD_rd hmore Tryz.callB66 (rd_ptr ⟨argS_no rfl,argS_no rfl,argS_no rfl,trivial⟩) rfl ?_
   simp[go_sem]
   exact wret_st (st:=⟨3,nm,[],[],l,false,zeroE,[],false,0⟩) hM
 have q':(m.err==0)=true:=by simpa using q
 obtain⟨he,hl6,rfl⟩:=hme q
 rw[if_pos q]at hinv
 rw[q']at hmore
 generalize nameF L m=n1 at hn1 hun hinv
 obtain⟨nm1,t1⟩:=n1
 simp only at hn1 hun hinv
 have hm4:=must_w L hL t1 hun.rin [61]
 have hu4:=hun.trans (must_ui hL [61] hun.rin)
 generalize mustF L [61] t1=t2 at hm4 hu4 hinv
 have hx:=ex_w L hL t2 hu4.rin (hu4.opn.trans ho0)
 have hu5:=hu4.trans (ex_ui hL hu4.rin (hu4.opn.trans ho0))
 generalize exF L t2=x at hx hu5 hinv
 obtain⟨e,t3⟩:=x
 simp only at hu5 hinv
 by_cases q3:isT L [44] t3=true
 ·rw[if_pos q3]at hinv
  refine wVW_code ?_
  simp[go_sem]
  refine wVC_rd htok Tryz.callB70 rd_1 rfl ?_
  simp[go_sem,upB]
  refine wdraw_but [(10,0),(12,3)] 1 5 (by simp) (by kernel_rfl) (by kernel_rfl) ?_
  simp[go_sem]
  refine key.elim (fun⟨k1,k2⟩=> ?_) (fun⟨k1,k2⟩=> ?_)
  ·simp[go_sem,k1]
   refine wVD_pure hwd Tryz.callB147 (fun _=>args_no rfl) rfl ?_
   simp[go_sem,k2]
   refine wVD_rd hmore Tryz.callB66 (rd_ptr ⟨argS_no rfl,argS_no rfl,argS_no rfl,trivial⟩) rfl ?_
   simp[go_sem]
   refine wVC_rd hn1 Tryz.callB117 rd_1 rfl ?_
   simp[go_sem]
   refine wVC_rd hm4 Tryz.callB71 (rd_ptr ⟨argS_no rfl,trivial⟩) rfl ?_
   simp[go_sem]
   refine wVC_rr hx Tryz.callB161 rd_1 ?_
   simp[go_sem,GExpr.row_eq]
   refine wneed_i ⟨by omega,uni_one rfl⟩ ?_
   simp[go_sem]
   refine wVC_rd (eat_yes L hL t3 hu5.rin _ q3) Tryz.callB68 (rd_ptr ⟨argS_no rfl,trivial⟩) rfl ?_
   simp[go_sem]
   refine next_i (l++ [⟨nm1,e⟩],nextF t3) ⟨by simp;omega,⟨by simp;omega,hu5.trans (next_ui hL hu5.rin q3),by simp only[List.length_append,List.length_singleton,show 7 - (l.length+1)=6 - l.length by omega];exact hinv⟩, ?_⟩
   exact at_n 4 (by simp[go_sem]) rfl (by simp[rB,zSt,upB,ltOb,ltC,ltK]) (by decide) (args_lt_eq (by simp[go_sem]) rfl)
  ·rw[←k2]at hmore
   simp[go_sem,k1]
   refine wVD_rd hmore Tryz.callB66 (rd_ptr ⟨argS_no rfl,argS_no rfl,argS_no rfl,trivial⟩) rfl ?_
   simp[go_sem]
   refine wVC_rd hn1 Tryz.callB117 rd_1 rfl ?_
   simp[go_sem]
   refine wVC_rd hm4 Tryz.callB71 (rd_ptr ⟨argS_no rfl,trivial⟩) rfl ?_
   simp[go_sem]
   refine wVC_rr hx Tryz.callB161 rd_1 ?_
   simp[go_sem,GExpr.row_eq]
   refine wneed_i ⟨by omega,uni_one rfl⟩ ?_
   simp[go_sem]
   refine wVC_rd (eat_yes L hL t3 hu5.rin _ q3) Tryz.callB68 (rd_ptr ⟨argS_no rfl,trivial⟩) rfl ?_
   simp[go_sem]
   refine next_i (l++ [⟨nm1,e⟩],nextF t3) ⟨by simp;omega,⟨by simp;omega,hu5.trans (next_ui hL hu5.rin q3),by simp only[List.length_append,List.length_singleton,show 7 - (l.length+1)=6 - l.length by omega];exact hinv⟩, ?_⟩
   exact at_n 4 (by simp[go_sem]) rfl (by simp[rB,zSt,upB,ltOb,ltC,ltK]) (by decide) (args_lt_eq (by simp[go_sem]) rfl)
 have q3:isT L [44] t3=false:=by simpa using q3
 rw[if_neg (by rw[q3];decide)]at hinv
 have hX1:X.1=true:=by rw[←hinv]
 have hX2:X.2.1=l++ [⟨nm1,e⟩]:=by rw[←hinv]
 have hX3:X.2.2=t3:=by rw[←hinv]
 rw[if_pos hX1,hX2,hX3]at hM
 obtain⟨gw,hw⟩:=whereS_w L hL t3 hu5.rin (hu5.opn.trans ho0) [zSt,.box [.int .i64 3,.str nm,.sl .full [],.sl .full [],.sl (.app 3) (l.map GAssign.row++ [[.str nm1,.int .i64 e.kind,.str e.s,.int .i64 e.v.kind,.int .i64 e.v.n,.str e.v.s,.sl .ro (e.args.map GExpr.row)]]),.bool false,.int .i64 0,.str [],.int .i64 0,.int .i64 0,.str [],.sl .full [],.str [],.bool false,.int .i64 0],
  .app (l.length+1) 7,.box [.int .i64 tk.kind,.int .i64 tk.place,.str tk.s,.int .i64 tk.n],.box [.str nm1,.int .i64 e.kind,.str e.s,.int .i64 e.v.kind,.int .i64 e.v.n,.str e.v.s,.sl .ro (e.args.map GExpr.row)]] 1 _ _ _ _ _ _ _ _ rfl
 generalize whS L t3=s9 at hw hM
 generalize whE L t3=w9 at hw hM
 have hr:=fun τ=>wret_st (L:=L) (g1:= .full) (g2:= .full) (g3:= .app 3) (g4:=gw) (τ:=τ) (st:=⟨3,nm,[],[],l++ [⟨nm1,e⟩],w9.1,w9.2,[],false,0⟩) hM
 simp at hr
 refine wVW_code ?_
 simp[go_sem]
 refine wVC_rd htok Tryz.callB70 rd_1 rfl ?_
 simp[go_sem,upB]
 refine wdraw_but [(10,0),(12,3)] 1 5 (by simp) (by kernel_rfl) (by kernel_rfl) ?_
 simp[go_sem]
 refine key.elim (fun⟨k1,k2⟩=> ?_) (fun⟨k1,k2⟩=> ?_)
 ·simp[go_sem,k1]
  refine wVD_pure hwd Tryz.callB147 (fun _=>args_no rfl) rfl ?_
  simp[go_sem,k2]
  refine wVD_rd hmore Tryz.callB66 (rd_ptr ⟨argS_no rfl,argS_no rfl,argS_no rfl,trivial⟩) rfl ?_
  simp[go_sem]
  refine wVC_rd hn1 Tryz.callB117 rd_1 rfl ?_
  simp[go_sem]
  refine wVC_rd hm4 Tryz.callB71 (rd_ptr ⟨argS_no rfl,trivial⟩) rfl ?_
  simp[go_sem]
  refine wVC_rr hx Tryz.callB161 rd_1 ?_
  simp[go_sem,GExpr.row_eq]
  refine wneed_i ⟨by omega,uni_one rfl⟩ ?_
  simp[go_sem]
  refine wVC_rd (eat_no L hL t3 hu5.rin _ q3) Tryz.callB68 (rd_ptr ⟨argS_no rfl,trivial⟩) rfl ?_
  simp[go_sem]
  refine wVC_whole hw Tryz.callB118 ?_
  rintro r σ ⟨rfl,rfl⟩ _
  simp[go_sem]
  exact hr _
 ·rw[←k2]at hmore
  simp[go_sem,k1]
  refine wVD_rd hmore Tryz.callB66 (rd_ptr ⟨argS_no rfl,argS_no rfl,argS_no rfl,trivial⟩) rfl ?_
  simp[go_sem]
  refine wVC_rd hn1 Tryz.callB117 rd_1 rfl ?_
  simp[go_sem]
  refine wVC_rd hm4 Tryz.callB71 (rd_ptr ⟨argS_no rfl,trivial⟩) rfl ?_
  simp[go_sem]
  refine wVC_rr hx Tryz.callB161 rd_1 ?_
  simp[go_sem,GExpr.row_eq]
  refine wneed_i ⟨by omega,uni_one rfl⟩ ?_
  simp[go_sem]
  refine wVC_rd (eat_no L hL t3 hu5.rin _ q3) Tryz.callB68 (rd_ptr ⟨argS_no rfl,trivial⟩) rfl ?_
  simp[go_sem]
  refine wVC_whole hw Tryz.callB118 ?_
  rintro r σ ⟨rfl,rfl⟩ _
  simp[go_sem]
  exact hr _
end Go.Proofs.YtajjjghohakniaaGreat
namespace Go.Proofs.YtajjjghohakniaaGreat
open Go Go.Vx
set_option maxRecDepth 100000
def blankF (c:UInt8):Bool:=decide (c.toNat=9)||(decide (c.toNat=10)||(decide (c.toNat=13)||decide (c.toNat=32)))
theorem u8_eq (c:UInt8) (n:Nat):(((c.toNat:Nat):Int)==(n:Int))=decide (c.toNat=n):=by
 rw[Bool.eq_iff_iff]
 simp only[beq_iff_eq,decide_eq_true_eq]
 omega
theorem refBlank_w (c:UInt8):Pure Tryz.prog 112 [.int .u8 c.toNat] (.bool (blankF c)):=by
 generalize hM:blankF c=M
 unfold blankF at hM
 have h9:=u8_eq c 9
 have h10:=u8_eq c 10
 have h13:=u8_eq c 13
 have h32:=u8_eq c 32
 simp only[Int.cast_ofNat_Int]at h9 h10 h13 h32
 have ret: ∀(r:Bool) (τ:St),r=M→wret (some (.bool r)) 0 (fun r σ=>r= .bool M∧σ= []) τ:=fun r τ h=>by subst h;exact wret_0 (argS_no rfl) ⟨rfl,rfl⟩
 refine VCalls.intro 0 Tryz.func112 Tryz.ntmps112 Tryz.results112 rfl rfl (Nat.le_of_ble_eq_true rfl) fun c hc hb=>wcode_of ?_
 simp[go_sem]
 repeat' (first
  |(refine wgrd_i (fun q=> ?_) (fun q=> ?_)<;>simp[go_sem,q])
  |(refine wcond_i (fun q=> ?_) (fun q=> ?_)<;>simp[go_sem,q]))
 all_goals exact ret _ _ (by rw[←hM];simp_all)
abbrev TR:=GToken×Nat×Int
def trV (x:TR):V:= .tup [.agg x.1.row,.int .i64 x.2.1,.int .i64 x.2.2]
theorem trV_no (x:TR):noS (trV x)=true:=rfl
theorem wret_tr {τ:St} {t:GToken} {n:Nat} {e:Int} {M:TR} (h:(t,n,e)=M):wret (some (.tup [.agg [.int .i64 t.kind,.int .i64 t.place,.str t.s,.int .i64 t.n],.int .i64 n,.int .i64 e])) 0 (fun r σ=>r=trV M∧σ= []) τ:=by
 subst h
 exact wret_0 (argS_no rfl) ⟨rfl,rfl⟩
def numL (v:Int):List UInt8→Option Int
 | []=>some v
 |c::l=>if digitF c=true then(if(9223372036854775807 - ((c.toNat:Int) - 48))/10<v then none else numL (v*10+((c.toNat:Int) - 48)) l)else some v
def numT (at_:Nat) (l:List UInt8):TR:=
 match numL 0 l with
 |none=>(noTok,0,5)
 |some v=>if letterF ((l.dropWhile digitF).headD 0)=true then(noTok,0,13)else(⟨2,0,[],v⟩,at_+(l.takeWhile digitF).length,0)
theorem digitF_rng {c:UInt8} (h:digitF c=true):48≤c.toNat∧c.toNat≤57:=by unfold digitF at h;simpa using h
set_option maxHeartbeats 1000000 in
theorem refNumber_w (s:List UInt8) (hl:s.length≤maxLen) (a:Nat) (ha:a≤s.length):Pure Tryz.prog 157 [.str s,.int .i64 a] (trV (numT a (s.drop a))):=by
 generalize hM:numT a (s.drop a)=M
 unfold numT at hM
 unfold maxLen at hl
 have hlet0:letterF 0=false:=by decide
 refine VCalls.introV 0 Tryz.func157 Tryz.ntmps157 Tryz.results157 rfl rfl (Nat.le_of_ble_eq_true rfl) fun c hc hb=> ?_
 refine wVW_code ?_
 simp[go_sem]
 refine wVW_while (S:=Nat×Int) [0,1,4,7] (fun u=> [.str s,.int .i64 u.1,.ptr 0 0,.int .i64 u.2]) (fun _=> [.box [.int .i64 0,.int .i64 0,.str [],.int .i64 0]]) (fun u=>s.length - u.1)
  (fun u=>u.1≤s.length∧0≤u.2∧u.2≤9223372036854775807∧(match numL u.2 (s.drop u.1)with|none=>(noTok,0,5)|some v=>if letterF (((s.drop u.1).dropWhile digitF).headD 0)=true then(noTok,0,13)else((⟨2,0,[],v⟩,u.1+((s.drop u.1).takeWhile digitF).length,0):TR))=M) hc hb (a,0) ⟨ha,Int.le_refl _,by simp,hM⟩ ?_ ?_
 ·exact at_n 1 (by simp[go_sem]) rfl (by rfl) (Nat.zero_le _) (args_lt_eq (by simp[go_sem]) rfl)
 rintro⟨i,v⟩ ⟨hi,hv0,hv1,hinv⟩
 simp only at hi hv0 hv1 hinv
 by_cases q:i<s.length
 rotate_left
 ·obtain rfl:i=s.length:=by omega
  rw[List.drop_length]at hinv
  have hinv:(⟨⟨2,0,[],v⟩,s.length,0⟩:TR)=M:=by rw[←hinv];rfl
  refine wVW_code ?_
  simp[go_sem]
  exact wret_tr (t:=⟨2,0,[],v⟩) hinv
 have ei:=i64_inc q (by omega)
 obtain⟨x,hx⟩: ∃x,s[i]=x:=⟨_,rfl⟩
 rw[List.drop_eq_getElem_cons q,hx]at hinv
 have hdg:=refDigit_w x
 have hlt:=refLetter_w x
 by_cases qd:digitF x=true
 rotate_left
 ·have qd:digitF x=false:=by simpa using qd
  rw[numL,if_neg (by rw[qd];decide),List.dropWhile_cons_of_neg (by rw[qd];decide),List.takeWhile_cons_of_neg (by rw[qd];decide)]at hinv
  simp only[List.headD_cons,List.length_nil,Nat.add_zero]at hinv
  rw[qd]at hdg
  by_cases ql:letterF x=true
  ·simp only[ql,if_true]at hinv
   rw[ql]at hlt
   refine wVW_code ?_
   simp[go_sem,q,hx]
   refine wVC_pure hdg Tryz.callB155 (args_no rfl) rfl ?_
   simp[go_sem,q,hx]
   refine wVC_pure hlt Tryz.callB154 (args_no rfl) rfl ?_
   simp[go_sem]
   exact wret_tr (t:=noTok) hinv
  ·have ql:letterF x=false:=by simpa using ql
   simp only[ql,Bool.false_eq_true,if_false]at hinv
   rw[ql]at hlt
   refine wVW_code ?_
   simp[go_sem,q,hx]
   refine wVC_pure hdg Tryz.callB155 (args_no rfl) rfl ?_
   simp[go_sem,q,hx]
   refine wVC_pure hlt Tryz.callB154 (args_no rfl) rfl ?_
   simp[go_sem]
   exact wret_tr (t:=⟨2,0,[],v⟩) hinv
 have hr:=digitF_rng qd
 rw[numL,if_pos qd,List.dropWhile_cons_of_pos qd,List.takeWhile_cons_of_pos qd]at hinv
 rw[qd]at hdg
 have e1:IntKind.u8.wrap ((x.toNat:Int) - 48)=(x.toNat:Int) - 48:=u8_idn (by omega) (by omega)
 have e2:IntKind.i64.wrap ((x.toNat:Int) - 48)=(x.toNat:Int) - 48:=i64_id (by omega) (by omega)
 have e3:IntKind.i64.wrap (9223372036854775807 - ((x.toNat:Int) - 48))=9223372036854775807 - ((x.toNat:Int) - 48):=i64_id (by omega) (by omega)
 obtain⟨d,hd⟩: ∃d:Int,(x.toNat:Int) - 48=d:=⟨_,rfl⟩
 rw[hd]at hinv e1 e2 e3
 have hd0:0≤d∧d≤9:=by omega
 have e4:IntKind.i64.wrap ((9223372036854775807 - d).tdiv 10)=(9223372036854775807 - d)/10:=by
  rw[Int.tdiv_eq_ediv_of_nonneg (by omega),i64_id (by omega) (by omega)]
 refine wVW_code ?_
 simp[go_sem,q,hx]
 refine wVC_pure hdg Tryz.callB155 (args_no rfl) rfl ?_
 simp[go_sem,q,hx,e1,e2,e3,e4,hd]
 by_cases qg:(9223372036854775807 - d)/10<v
 ·have qg':decide ((9223372036854775807 - d)/10<v)=true:=decide_eq_true qg
  simp only[qg,if_true]at hinv
  simp[go_sem,qg']
  exact wret_tr (t:=noTok) hinv
 ·have qg':decide ((9223372036854775807 - d)/10<v)=false:=decide_eq_false qg
  simp only[qg,if_false]at hinv
  have e5:IntKind.i64.wrap (v*10)=v*10:=i64_id (by omega) (by omega)
  have e6:IntKind.i64.wrap (v*10+d)=v*10+d:=i64_id (by omega) (by omega)
  simp[go_sem,qg',e5,e6,ei]
  refine next_i (i+1,v*10+d) ⟨by simp only;omega,⟨by simp only;omega,by simp only;omega,by simp only;omega, ?_⟩, ?_⟩
  ·simp only[List.length_cons]at hinv
   rw[←hinv]
   simp only[Nat.add_assoc,Nat.add_comm 1]
  ·exact at_n 1 (by simp[go_sem]) rfl (by rfl) (Nat.zero_le _) (args_lt_eq (by simp[go_sem]) rfl)
end Go.Proofs.YtajjjghohakniaaGreat
namespace Go.Proofs.YtajjjghohakniaaGreat
open Go Go.Vx
set_option maxRecDepth 100000
def textE (i:Nat) (w:List UInt8):TR:=if 64<w.length then(noTok,0,3)else(⟨3,0,w,0⟩,i+1,0)
def textL:Nat→List UInt8→List UInt8→TR
 |_,_,[]=>(noTok,0,13)
 |i,w,[c]=>if c.toNat=39 then textE i w else(noTok,0,13)
 |i,w,c::c2::l=>if c.toNat=39 then(if c2.toNat=39 then textL (i+2) (w++ [c2]) l else textE i w)else textL (i+1) (w++ [c]) (c2::l)
theorem textL_cons (i:Nat) (w:List UInt8) (c:UInt8) (l:List UInt8) (h: ¬c.toNat=39):textL i w (c::l)=textL (i+1) (w++ [c]) l:=by
 cases l with
 |nil=>rw[textL,textL,if_neg h]
 |cons c2 l=>rw[textL,if_neg h]
set_option maxHeartbeats 1000000 in
theorem lexText_w (s:List UInt8) (hl:s.length≤maxLen) (a:Nat) (ha:a<s.length):Pure Tryz.prog 158 [.str s,.int .i64 a] (trV (textL (a+1) [] (s.drop (a+1)))):=by
 generalize hM:textL (a+1) [] (s.drop (a+1))=M
 unfold maxLen at hl
 have ea:IntKind.i64.wrap ((a:Int)+1)=((a+1:Nat):Int):=i64_inc ha (by omega)
 refine VCalls.introV 0 Tryz.func158 Tryz.ntmps158 Tryz.results158 rfl rfl (Nat.le_of_ble_eq_true rfl) fun c hc hb=> ?_
 refine wVW_code ?_
 simp[go_sem,ea]
 refine wVW_while (S:=Nat×List UInt8) [0,4,7,8] (fun u=> [.str s,.ptr 0 0,.str u.2,.int .i64 u.1]) (fun _=> [.box [.int .i64 0,.int .i64 0,.str [],.int .i64 0]]) (fun u=>s.length - u.1)
  (fun u=>u.1≤s.length∧u.2.length≤u.1∧textL u.1 u.2 (s.drop u.1)=M) hc hb (a+1,[]) ⟨ha,Nat.zero_le _,hM⟩ ?_ ?_
 ·exact at_n 1 (by simp[go_sem]) rfl (by rfl) (Nat.zero_le _) (args_lt_eq (by simp[go_sem]) rfl)
 rintro⟨i,w⟩ ⟨hi,hw,hinv⟩
 simp only at hi hw hinv
 by_cases q:i<s.length
 rotate_left
 ·obtain rfl:i=s.length:=by omega
  rw[List.drop_length]at hinv
  refine wVW_code ?_
  simp[go_sem]
  exact wret_tr (t:=noTok) hinv
 have ei:=i64_inc q (by omega)
 obtain⟨x,hx⟩: ∃x,s[i]=x:=⟨_,rfl⟩
 have hx39:=u8_eq x 39
 simp only[Int.cast_ofNat_Int]at hx39
 rw[List.drop_eq_getElem_cons q,hx]at hinv
 by_cases q39:x.toNat=39
 rotate_left
 ·rw[decide_eq_false q39]at hx39
  rw[textL_cons _ _ _ _ q39]at hinv
  have hsl:(s.take (i+1)).drop i= [x]:=by
   rw[List.take_add_one,List.getElem?_eq_getElem q,hx,List.drop_append,List.drop_eq_nil_of_le (by simp;omega),List.length_take,Nat.min_eq_left (by omega)]
   simp
  refine wVW_code ?_
  simp[go_sem,q,hx,hx39,ei]
  refine wneed_i (by omega) ?_
  simp[go_sem,hsl]
  refine wneed_i (by omega) ?_
  simp[go_sem,ei]
  refine next_i (i+1,w++ [x]) ⟨by simp only;omega,⟨by simp only;omega,by simp;omega,hinv⟩, ?_⟩
  exact at_n 1 (by simp[go_sem]) rfl (by rfl) (Nat.zero_le _) (args_lt_eq (by simp[go_sem]) rfl)
 rw[decide_eq_true q39]at hx39
 by_cases q2:i+1<s.length
 rotate_left
 ·have hdn:s.drop (i+1)= []:=List.drop_eq_nil_of_le (by omega)
  rw[hdn,textL,if_pos q39]at hinv
  unfold textE at hinv
  have e1:((i:Int)+1==(s.length:Int))=true:=by simp;omega
  refine wVW_code ?_
  simp[go_sem,q,hx,hx39,ei,e1]
  by_cases q64:64<w.length
  ·have q64':decide ((64:Int)<w.length)=true:=decide_eq_true (by omega)
   rw[if_pos q64]at hinv
   simp[go_sem,q64']
   exact wret_tr (t:=noTok) hinv
  ·have q64':decide ((64:Int)<w.length)=false:=decide_eq_false (by omega)
   rw[if_neg q64]at hinv
   simp[go_sem,q64',ei]
   exact wret_tr (t:=⟨3,0,w,0⟩) hinv
 have e1:((i:Int)+1==(s.length:Int))=false:=by simp;omega
 have ei2:=i64_inc q2 (by omega)
 obtain⟨y,hy⟩: ∃y,s[i+1]=y:=⟨_,rfl⟩
 have hy39:=u8_eq y 39
 simp only[Int.cast_ofNat_Int]at hy39
 have hy2:s[i+1]?.getD 0=y:=by rw[List.getElem?_eq_getElem q2,hy];rfl
 have ei3:IntKind.i64.wrap ((i:Int)+1+1)=(i:Int)+2:=by rw[i64_id (by omega) (by omega)];omega
 rw[List.drop_eq_getElem_cons q2,hy,textL,if_pos q39]at hinv
 by_cases qy:y.toNat=39
 rotate_left
 ·rw[if_neg qy]at hinv
  unfold textE at hinv
  rw[decide_eq_false qy]at hy39
  have hy39':((y.toNat:Int) !=39)=true:=by simp;omega
  refine wVW_code ?_
  simp[go_sem,q,hx,hx39,ei,e1]
  refine wneed_i (by omega) ?_
  simp[go_sem,hy2,hy39']
  by_cases q64:64<w.length
  ·have q64':decide ((64:Int)<w.length)=true:=decide_eq_true (by omega)
   rw[if_pos q64]at hinv
   simp[go_sem,q64']
   exact wret_tr (t:=noTok) hinv
  ·have q64':decide ((64:Int)<w.length)=false:=decide_eq_false (by omega)
   rw[if_neg q64]at hinv
   simp[go_sem,q64',ei]
   exact wret_tr (t:=⟨3,0,w,0⟩) hinv
 rw[if_pos qy]at hinv
 rw[decide_eq_true qy]at hy39
 have hy39':((y.toNat:Int) !=39)=false:=by simp;omega
 have hsl:(s.take (i+2)).drop (i+1)= [y]:=by
  rw[List.take_add_one,List.getElem?_eq_getElem q2,hy,List.drop_append,List.drop_eq_nil_of_le (by simp;omega),List.length_take,Nat.min_eq_left (by omega)]
  simp
 refine wVW_code ?_
 simp[go_sem,q,hx,hx39,ei,e1]
 have et:((i:Int)+2).toNat=i+2:=by omega
 have ei4:IntKind.i64.wrap ((i:Int)+1+1)=((i+2:Nat):Int):=by rw[ei3];omega
 refine wneed_i (by omega) ?_
 simp[go_sem,hy2,hy39',ei,ei3,et]
 refine wneed_i (by omega) ?_
 simp[go_sem,hsl]
 refine wneed_i (by omega) ?_
 simp[go_sem,ei3]
 refine next_i (i+2,w++ [y]) ⟨by simp only;omega,⟨by simp only;omega,by simp;omega,hinv⟩, ?_⟩
 exact at_n 1 (by simp[go_sem]) rfl (by rfl) (Nat.zero_le _) (args_lt_eq (by simp[go_sem]) rfl)
def wrdF (c:UInt8):Bool:=letterF c||digitF c
def signsL:List UInt8:= [40,41,44,59,42,61,60,62,43,45,47,37]
def oneF (s:List UInt8) (a:Nat):TR:=
 if letterF (s.getD a 0)=true then(⟨1,0,((s.drop a).takeWhile wrdF).map greatF,0⟩,a+((s.drop a).takeWhile wrdF).length,0)
 else if digitF (s.getD a 0)=true then numT a (s.drop a)
 else if(s.getD a 0).toNat=39 then textL (a+1) [] (s.drop (a+1))
 else if a+1<s.length∧((s.drop a).take 2= [60,61]∨(s.drop a).take 2= [62,61]∨(s.drop a).take 2= [60,62])then(⟨4,0,(s.drop a).take 2,0⟩,a+2,0)
 else if signsL.contains (s.getD a 0)=true then(⟨4,0,[s.getD a 0],0⟩,a+1,0)
 else(noTok,0,13)
set_option maxHeartbeats 2000000 in
theorem refOne_w (s:List UInt8) (hl:s.length≤maxLen) (a:Nat) (ha:a<s.length):Pure Tryz.prog 113 [.str s,.int .i64 a] (trV (oneF s a)):=by
 generalize hM:oneF s a=M
 have hnum:=refNumber_w s hl a (by omega)
 have htxt:=lexText_w s hl a ha
 unfold oneF at hM
 unfold maxLen at hl
 have hga:s.getD a 0=s[a]:=by rw[List.getD_eq_getElem?_getD,List.getElem?_eq_getElem ha];rfl
 rw[hga]at hM
 obtain⟨x,hx⟩: ∃x,s[a]=x:=⟨_,rfl⟩
 rw[hx]at hM
 have hlt:=refLetter_w x
 have hdg:=refDigit_w x
 generalize numT a (s.drop a)=n at hnum hM
 generalize textL (a+1) [] (s.drop (a+1))=t at htxt hM
 have ret: ∀(y:TR) (τ:St),y=M→wret (some (.tup [.agg [.int .i64 y.1.kind,.int .i64 y.1.place,.str y.1.s,.int .i64 y.1.n],.int .i64 y.2.1,.int .i64 y.2.2])) 0 (fun r σ=>r=trV M∧σ= []) τ:=fun y τ h=>wret_tr (t:=y.1) h
 refine VCalls.introV 0 Tryz.func113 Tryz.ntmps113 Tryz.results113 rfl rfl (Nat.le_of_ble_eq_true rfl) fun c hc hb=> ?_
 refine wVW_code ?_
 simp[go_sem,ha,hx]
 by_cases q1:letterF x=true
 ·rw[if_pos q1]at hM
  rw[q1]at hlt
  refine wVC_pure hlt Tryz.callB154 (args_no rfl) rfl ?_
  simp[go_sem]
  refine wVW_while (S:=Nat×List UInt8) [0,1,4,7] (fun u=> [.str s,.int .i64 u.1,.ptr 0 0,.str u.2]) (fun _=> [.box [.int .i64 0,.int .i64 0,.str [],.int .i64 0]]) (fun u=>s.length - u.1)
   (fun u=>u.1≤s.length∧u.2.length≤u.1∧((⟨1,0,u.2++((s.drop u.1).takeWhile wrdF).map greatF,0⟩,u.1+((s.drop u.1).takeWhile wrdF).length,0):TR)=M) hc hb (a,[]) ⟨by simp only;omega,Nat.zero_le _,hM⟩ ?_ ?_
  ·exact at_n 1 (by simp[go_sem]) rfl (by rfl) (Nat.zero_le _) (args_lt_eq (by simp[go_sem]) rfl)
  rintro⟨i,w⟩ ⟨hi,hw,hinv⟩
  simp only at hi hw hinv
  by_cases q:i<s.length
  rotate_left
  ·obtain rfl:i=s.length:=by omega
   rw[List.drop_length]at hinv
   simp only[List.takeWhile_nil,List.map_nil,List.append_nil,List.length_nil,Nat.add_zero]at hinv
   refine wVW_code ?_
   simp[go_sem]
   exact wret_tr (t:=⟨1,0,w,0⟩) hinv
  have ei:=i64_inc q (by omega)
  obtain⟨y,hy⟩: ∃y,s[i]=y:=⟨_,rfl⟩
  rw[List.drop_eq_getElem_cons q,hy]at hinv
  have hl2:=refLetter_w y
  have hd2:=refDigit_w y
  have hg2:=great_w y
  have yes:wrdF y=true→((⟨1,0,(w++ [greatF y])++((s.drop (i+1)).takeWhile wrdF).map greatF,0⟩,i+1+((s.drop (i+1)).takeWhile wrdF).length,0):TR)=M:=fun h=>by
   rw[List.takeWhile_cons_of_pos h]at hinv
   rw[←hinv,List.map_cons,List.append_assoc,List.length_cons,Nat.add_assoc i 1,Nat.add_comm 1]
   rfl
  have no:wrdF y=false→((⟨1,0,w,0⟩,i,0):TR)=M:=fun h=>by
   rw[List.takeWhile_cons_of_neg (by rw[h];decide)]at hinv
   rw[←hinv]
   simp
  have hib:isBytes [[V.int .u8 ((greatF y).toNat:Int)]]:=byteRows_isBytes [greatF y]
  have hrb:rowByte [V.int .u8 ((greatF y).toNat:Int)]=greatF y:=(List.cons.inj (byteRows_back [greatF y])).1
  refine wVW_code ?_
  simp[go_sem,q,hy]
  refine wVC_pure hl2 Tryz.callB154 (args_no rfl) rfl ?_
  refine(Bool.eq_false_or_eq_true (letterF y)).elim (fun p1=> ?_) (fun p1=> ?_)
  ·have hyes:=yes (by unfold wrdF;rw[p1];rfl)
   simp[go_sem,p1,q,hy]
   refine wVC_pure hg2 Tryz.callB156 (args_no rfl) rfl ?_
   simp[go_sem,ei]
   refine wneed_i hib ?_
   simp[go_sem,hrb]
   refine wneed_i (by omega) ?_
   simp[go_sem,ei]
   refine next_i (i+1,w++ [greatF y]) ⟨by simp only;omega,⟨by simp only;omega,by simp;omega,hyes⟩, ?_⟩
   exact at_n 1 (by simp[go_sem]) rfl (by rfl) (Nat.zero_le _) (args_lt_eq (by simp[go_sem]) rfl)
  refine(Bool.eq_false_or_eq_true (digitF y)).elim (fun p2=> ?_) (fun p2=> ?_)
  ·have hyes:=yes (by unfold wrdF;rw[p1,p2];rfl)
   simp[go_sem,p1,q,hy]
   refine wVC_pure hd2 Tryz.callB155 (args_no rfl) rfl ?_
   simp[go_sem,p2,q,hy]
   refine wVC_pure hg2 Tryz.callB156 (args_no rfl) rfl ?_
   simp[go_sem,ei]
   refine wneed_i hib ?_
   simp[go_sem,hrb]
   refine wneed_i (by omega) ?_
   simp[go_sem,ei]
   refine next_i (i+1,w++ [greatF y]) ⟨by simp only;omega,⟨by simp only;omega,by simp;omega,hyes⟩, ?_⟩
   exact at_n 1 (by simp[go_sem]) rfl (by rfl) (Nat.zero_le _) (args_lt_eq (by simp[go_sem]) rfl)
  ·have hno:=no (by unfold wrdF;rw[p1,p2];rfl)
   simp[go_sem,p1,q,hy]
   refine wVC_pure hd2 Tryz.callB155 (args_no rfl) rfl ?_
   simp[go_sem,p2,q,hy]
   exact wret_tr (t:=⟨1,0,w,0⟩) hno
 have q1:letterF x=false:=by simpa using q1
 rw[if_neg (by rw[q1];decide)]at hM
 rw[q1]at hlt
 refine wVC_pure hlt Tryz.callB154 (args_no rfl) rfl ?_
 simp[go_sem,ha,hx]
 by_cases q2:digitF x=true
 ·rw[if_pos q2]at hM
  rw[q2]at hdg
  refine wVC_pure hdg Tryz.callB155 (args_no rfl) rfl ?_
  simp[go_sem]
  refine wVC_pure hnum Tryz.callB157 (args_no rfl) (trV_no _) ?_
  simp[go_sem,trV]
  exact ret _ _ hM
 have q2:digitF x=false:=by simpa using q2
 rw[if_neg (by rw[q2];decide)]at hM
 rw[q2]at hdg
 refine wVC_pure hdg Tryz.callB155 (args_no rfl) rfl ?_
 simp[go_sem,ha,hx]
 have hx39:=u8_eq x 39
 simp only[Int.cast_ofNat_Int]at hx39
 by_cases q3:x.toNat=39
 ·rw[if_pos q3]at hM
  rw[decide_eq_true q3]at hx39
  simp[go_sem,hx39]
  refine wVC_pure htxt Tryz.callB158 (args_no rfl) (trV_no _) ?_
  simp[go_sem,trV]
  exact ret _ _ hM
 rw[if_neg q3]at hM
 rw[decide_eq_false q3]at hx39
 simp[go_sem,hx39]
 have hey: ∀(y:UInt8),((y.toNat:Int)==(x.toNat:Int))=(y==x):=fun y=>by
  rw[Bool.eq_iff_iff]
  simp only[beq_iff_eq]
  exact⟨fun h=>UInt8.toNat_inj.1 (by omega),fun h=>by rw[h]⟩
 have ea:IntKind.i64.wrap ((a:Int)+1)=((a+1:Nat):Int):=i64_inc ha (by omega)
 have hsl1:(s.take (a+1)).drop a= [x]:=by
  rw[List.take_add_one,List.getElem?_eq_getElem ha,hx,List.drop_append,List.drop_eq_nil_of_le (by simp;omega),List.length_take,Nat.min_eq_left (by omega)]
  simp
 by_cases qa:a+1<s.length
 rotate_left
 ·have qa':decide ((a:Int)+1<s.length)=false:=decide_eq_false (by omega)
  rw[if_neg (fun h=>qa h.1)]at hM
  simp[go_sem,ea,qa']
  refine wVW_while (S:=Nat) [0,1,4,9] (fun k=> [.str s,.int .i64 a,.ptr 0 0,.int .i64 (k:Int)]) (fun _=> [.box [.int .i64 0,.int .i64 0,.str [],.int .i64 0]]) (fun k=>12 - k)
   (fun k=>k≤12∧(if(signsL.drop k).contains x=true then(⟨4,0,[x],0⟩,a+1,0)else(noTok,0,13):TR)=M) hc hb 0 ⟨Nat.zero_le _,hM⟩ ?_ ?_
  ·exact at_n 1 (by simp[go_sem]) rfl (by rfl) (Nat.zero_le _) (args_lt_eq (by simp[go_sem]) rfl)
  rintro k ⟨hk,hinv⟩
  by_cases qk:k<12
  rotate_left
  ·obtain rfl:k=12:=by omega
   refine wVW_code ?_
   simp[go_sem]
   exact wret_tr (t:=noTok) hinv
  have hkl:k<signsL.length:=qk
  have ek:=i64_inc qk (by decide)
  have qk':decide ((k:Int)<12)=true:=decide_eq_true (by omega)
  obtain⟨y,hy⟩: ∃y,signsL[k]=y:=⟨_,rfl⟩
  rw[List.drop_eq_getElem_cons hkl,hy]at hinv
  have hy2: [40,41,44,59,42,61,60,62,43,45,47,37][k]?.getD (0:UInt8)=y:=by
   have:signsL[k]?.getD 0=y:=by rw[List.getElem?_eq_getElem hkl,hy];rfl
   exact this
  refine wVW_code ?_
  simp[go_sem,qk']
  refine wdraw [] 1 (by simp) (by kernel_rfl) (by kernel_rfl) ?_
  simp[go_sem]
  refine wneed_i (by omega) ?_
  simp[go_sem,ha,hx,hy2,hey]
  by_cases qe:(y==x)=true
  ·have hyx:y=x:=by simpa using qe
   rw[if_pos (by simp[hyx])]at hinv
   simp[go_sem,qe,ea]
   refine wneed_i (by omega) ?_
   simp[go_sem,hsl1,ea]
   exact wret_tr (t:=⟨4,0,[x],0⟩) hinv
  ·have qe:(y==x)=false:=by simpa using qe
   have hc2:(y::signsL.drop (k+1)).contains x=(signsL.drop (k+1)).contains x:=by
    rw[List.contains_cons,show(x==y)=false by rw[←qe];exact Bool.eq_iff_iff.2 ⟨fun h=>by simp_all,fun h=>by simp_all⟩]
    rfl
   rw[hc2]at hinv
   simp[go_sem,qe,ek]
   exact next_i (k+1) ⟨by omega,⟨by omega,hinv⟩,at_n 1 (by simp[go_sem]) rfl (by rfl) (Nat.zero_le _) (args_lt_eq (by simp[go_sem]) rfl)⟩
 have qa':decide ((a:Int)+1<s.length)=true:=decide_eq_true (by omega)
 have ea2:IntKind.i64.wrap ((a:Int)+2)=(a:Int)+2:=by rw[i64_id (by omega) (by omega)]
 have et:((a:Int)+2).toNat=a+2:=by omega
 have hd2:(s.drop a).take 2=(s.take (a+2)).drop a:=by rw[List.drop_take];congr 1;omega
 rw[hd2]at hM
 simp[go_sem,ea,ea2,et,qa']
 refine wneed_i (by omega) ?_
 simp[go_sem]
 generalize (s.take (a+2)).drop a=two at hM
 have yes:(two= [60,61]∨two= [62,61]∨two= [60,62])→((⟨4,0,two,0⟩,a+2,0):TR)=M:=fun h=>by rw[if_pos ⟨qa,h⟩]at hM;exact hM
 have no: ¬(two= [60,61]∨two= [62,61]∨two= [60,62])→(if signsL.contains x=true then(⟨4,0,[x],0⟩,a+1,0)else(noTok,0,13):TR)=M:=fun h=>by rw[if_neg (fun hh=>h hh.2)]at hM;exact hM
 clear hM
 by_cases qt:two= [60,61]∨two= [62,61]∨two= [60,62]
 ·have hM:=yes qt
  rcases qt with rfl|rfl|rfl
  all_goals simp[go_sem,ea2]
  all_goals exact wret_tr (t:=⟨4,0,_,0⟩) hM
 ·have hM:=no qt
  have p1:(two== [60,61])=false:=by simpa using fun h=>qt (.inl h)
  have p2:(two== [62,61])=false:=by simpa using fun h=>qt (.inr (.inl h))
  have p3:(two== [60,62])=false:=by simpa using fun h=>qt (.inr (.inr h))
  clear yes no qt
  simp[go_sem,p1,p2,p3]
  refine wVW_while (S:=Nat) [0,1,4,9] (fun k=> [.str s,.int .i64 a,.ptr 0 0,.int .i64 (k:Int)]) (fun _=> [.box [.int .i64 0,.int .i64 0,.str [],.int .i64 0]]) (fun k=>12 - k)
   (fun k=>k≤12∧(if(signsL.drop k).contains x=true then(⟨4,0,[x],0⟩,a+1,0)else(noTok,0,13):TR)=M) hc hb 0 ⟨Nat.zero_le _,hM⟩ ?_ ?_
  ·exact at_n 1 (by simp[go_sem]) rfl (by rfl) (Nat.zero_le _) (args_lt_eq (by simp[go_sem]) rfl)
  rintro k ⟨hk,hinv⟩
  by_cases qk:k<12
  rotate_left
  ·obtain rfl:k=12:=by omega
   refine wVW_code ?_
   simp[go_sem]
   exact wret_tr (t:=noTok) hinv
  have hkl:k<signsL.length:=qk
  have ek:=i64_inc qk (by decide)
  have qk':decide ((k:Int)<12)=true:=decide_eq_true (by omega)
  obtain⟨y,hy⟩: ∃y,signsL[k]=y:=⟨_,rfl⟩
  rw[List.drop_eq_getElem_cons hkl,hy]at hinv
  have hy2: [40,41,44,59,42,61,60,62,43,45,47,37][k]?.getD (0:UInt8)=y:=by
   have:signsL[k]?.getD 0=y:=by rw[List.getElem?_eq_getElem hkl,hy];rfl
   exact this
  refine wVW_code ?_
  simp[go_sem,qk']
  refine wdraw [] 1 (by simp) (by kernel_rfl) (by kernel_rfl) ?_
  simp[go_sem]
  refine wneed_i (by omega) ?_
  simp[go_sem,ha,hx,hy2,hey]
  by_cases qe:(y==x)=true
  ·have hyx:y=x:=by simpa using qe
   rw[if_pos (by simp[hyx])]at hinv
   simp[go_sem,qe,ea]
   refine wneed_i (by omega) ?_
   simp[go_sem,hsl1,ea]
   exact wret_tr (t:=⟨4,0,[x],0⟩) hinv
  ·have qe:(y==x)=false:=by simpa using qe
   have hc2:(y::signsL.drop (k+1)).contains x=(signsL.drop (k+1)).contains x:=by
    rw[List.contains_cons,show(x==y)=false by rw[←qe];exact Bool.eq_iff_iff.2 ⟨fun h=>by simp_all,fun h=>by simp_all⟩]
    rfl
   rw[hc2]at hinv
   simp[go_sem,qe,ek]
   exact next_i (k+1) ⟨by omega,⟨by omega,hinv⟩,at_n 1 (by simp[go_sem]) rfl (by rfl) (Nat.zero_le _) (args_lt_eq (by simp[go_sem]) rfl)⟩
end Go.Proofs.YtajjjghohakniaaGreat
