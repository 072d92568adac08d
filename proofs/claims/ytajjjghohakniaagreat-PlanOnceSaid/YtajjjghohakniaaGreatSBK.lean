/-
  Which lots have a text, in the program, over trees (the library Vx); used by the theorem at the end of the claim.
  Conditions: as each theorem states them.
-/
import Derived.Test.YtajjjghohakniaaGreatSBJ
namespace Go.Proofs.YtajjjghohakniaaGreat
open Go Go.Vx R
set_option maxRecDepth 100000
def mayI (n:Nat) (x:GItem):Bool:=if x.kind=1 then decide (n≤1)&&blankE x.e else if x.kind=3 then blankE x.e else if x.kind=2∨x.kind=4 then mayE 16 x.e else false
def mayIs (l:List GItem):Bool:=l.all (mayI l.length)&&(decide (1≤l.length)&&decide (l.length≤6))
def mayR (r:List GExpr):Bool:=(decide (1≤r.length)&&decide (r.length≤6))&&r.all (mayE 16)
def mayRs (l:List (List GExpr)):Bool:=l.all mayR&&(decide (1≤l.length)&&decide (l.length≤16))
def mayA (x:GAssign):Bool:=wordF x.name&&mayE 16 x.e
def mayAs (l:List GAssign):Bool:=(decide (1≤l.length)&&decide (l.length≤6))&&l.all mayA
theorem bret {b M:Bool} {σ:St} (h:b=M):wret (some (.bool b)) 0 (fun r s=>r= .bool M∧s= []) σ:=by subst h;exact wret_0 (argS_no rfl) ⟨rfl,rfl⟩
set_option maxHeartbeats 1000000 in
theorem mayItems_w (l:List GItem) (hl:l.length≤12) (hx: ∀x∈l,i64R x.kind∧EOk x.e):Pure Tryz.prog 122 [.sl .ro (l.map GItem.row)] (.bool (mayIs l)):=by
 obtain⟨n,hn⟩: ∃n,l.length=n:=⟨_,rfl⟩
 generalize hM:mayIs l=M
 unfold mayIs at hM
 rw[hn]at hM
 have e1:decide ((1:Int)≤n)=decide (1≤n):=decide_eq_decide.2 (by omega)
 have e2:decide ((n:Int)≤6)=decide (n≤6):=decide_eq_decide.2 (by omega)
 have e3:decide ((1:Int)<n)= !decide (n≤1):=by
  by_cases h:n≤1
  ·rw[decide_eq_true h,decide_eq_false (by omega)];rfl
  ·rw[decide_eq_false h,decide_eq_true (by omega)];rfl
 refine VCalls.introV 0 Tryz.func122 Tryz.ntmps122 Tryz.results122 rfl rfl (Nat.le_of_ble_eq_true rfl) fun c hc hb=> ?_
 refine wVW_code ?_
 simp[go_sem]
 refine wVW_while (S:=Nat) [0,5,6,7] (fun i=> [.sl .ro (l.map GItem.row),.sl .ro (l.map GItem.row),.int .i64 n,.int .i64 (i:Int)]) (fun _=> []) (fun i=>n - i)
  (fun i=>i≤n∧((l.drop i).all (mayI n)&&(decide (1≤n)&&decide (n≤6)))=M) hc hb 0 ⟨Nat.zero_le _,by rw[List.drop_zero];exact hM⟩ ?_ ?_
 ·exact at_0 rfl (args_eq (by simp[go_sem,hn]) rfl)
 rintro i ⟨hi,hinv⟩
 by_cases q:i<n
 rotate_left
 ·rw[List.drop_eq_nil_of_le (by omega),List.all_nil,Bool.true_and]at hinv
  refine wVW_code ?_
  simp[go_sem,q,hn,e1,e2]
  refine wgrd_i (fun w=> ?_) (fun w=> ?_)
  ·simp[go_sem,w,hn,e2]
   exact bret (by rw[←hinv,w,Bool.true_and])
  ·simp[go_sem,w]
   exact bret (by rw[←hinv,w];rfl)
 have hq:i<l.length:=by omega
 have ei:=i64_inc q (by omega)
 rw[all_drop _ _ _ hq]at hinv
 obtain⟨x,hxe⟩: ∃x,l[i]=x:=⟨_,rfl⟩
 obtain⟨hk,hE⟩:=hx x (hxe▸List.getElem_mem hq)
 have hbl:=blank_w x.e (by have:=hE.wide.len;unfold maxLen;omega)
 have hme:=mayExpr_w 16 x.e (by decide) hE.wide hE.good
 rw[hxe]at hinv
 obtain⟨b,hb1⟩: ∃b,mayI n x=b:=⟨_,rfl⟩
 rw[hb1]at hinv
 unfold mayI at hb1
 have yes:b=true→((l.drop (i+1)).all (mayI n)&&(decide (1≤n)&&decide (n≤6)))=M:=fun h=>by rw[h,Bool.true_and]at hinv;exact hinv
 have no:b=false→false=M:=fun h=>by rw[h]at hinv;exact hinv
 clear hinv
 generalize blankE x.e=bl at hbl hb1
 generalize mayE 16 x.e=me at hme hb1
 simp only[Int.cast_ofNat_Int]at hme
 refine wVW_code ?_
 simp[go_sem,q,hq,hxe]
 by_cases k1:x.kind=1
 ·have k1':(x.kind==1)=true:=by simpa using k1
  rw[if_pos k1]at hb1
  simp[go_sem,k1',hn,e3]
  refine wgrd_i (fun w=> ?_) (fun w=> ?_)
  ·have w2:decide (n≤1)=true:=by simpa using w
   rw[w2,Bool.true_and]at hb1
   simp[go_sem,w2]
   refine wVC_pure hbl Tryz.callB121 (args_eq (by simp[go_sem]) (by rw[GExpr.row_eq];rfl)) rfl ?_
   simp[go_sem]
   refine(Bool.eq_false_or_eq_true bl).elim (fun w=> ?_) (fun w=> ?_)
   ·simp[go_sem,w,ei]
    exact next_i (i+1) ⟨by omega,⟨by omega,yes (by rw[←hb1,w])⟩,at_0 rfl (args_eq (by simp[go_sem]) rfl)⟩
   ·simp[go_sem,w]
    exact bret (no (by rw[←hb1,w]))
  ·have w2:decide (n≤1)=false:=by simpa using w
   rw[w2,Bool.false_and]at hb1
   simp[go_sem,w2]
   exact bret (no hb1.symm)
 rw[if_neg k1]at hb1
 have k1':(x.kind==1)=false:=by simpa using k1
 by_cases k3:x.kind=3
 ·have k3':(x.kind==3)=true:=by simpa using k3
  rw[if_pos k3]at hb1
  simp[go_sem,k1',k3']
  refine wVC_pure hbl Tryz.callB121 (args_eq (by simp[go_sem]) (by rw[GExpr.row_eq];rfl)) rfl ?_
  simp[go_sem]
  refine(Bool.eq_false_or_eq_true bl).elim (fun w=> ?_) (fun w=> ?_)
  ·simp[go_sem,w,ei]
   exact next_i (i+1) ⟨by omega,⟨by omega,yes (by rw[←hb1,w])⟩,at_0 rfl (args_eq (by simp[go_sem]) rfl)⟩
  ·simp[go_sem,w]
   exact bret (no (by rw[←hb1,w]))
 rw[if_neg k3]at hb1
 have k3':(x.kind==3)=false:=by simpa using k3
 by_cases k2:x.kind=2
 ·have k2':(x.kind==2)=true:=by simpa using k2
  rw[if_pos (.inl k2)]at hb1
  simp[go_sem,k1',k3',k2']
  refine wVC_pure hme Tryz.callB120 (args_eq (by simp[go_sem]) (by rw[GExpr.row_eq];rfl)) rfl ?_
  simp[go_sem]
  refine(Bool.eq_false_or_eq_true me).elim (fun w=> ?_) (fun w=> ?_)
  ·simp[go_sem,w,ei]
   exact next_i (i+1) ⟨by omega,⟨by omega,yes (by rw[←hb1,w])⟩,at_0 rfl (args_eq (by simp[go_sem]) rfl)⟩
  ·simp[go_sem,w]
   exact bret (no (by rw[←hb1,w]))
 have k2':(x.kind==2)=false:=by simpa using k2
 by_cases k4:x.kind=4
 ·have k4':(x.kind==4)=true:=by simpa using k4
  rw[if_pos (.inr k4)]at hb1
  simp[go_sem,k1',k3',k2',k4']
  refine wVC_pure hme Tryz.callB120 (args_eq (by simp[go_sem]) (by rw[GExpr.row_eq];rfl)) rfl ?_
  simp[go_sem]
  refine(Bool.eq_false_or_eq_true me).elim (fun w=> ?_) (fun w=> ?_)
  ·simp[go_sem,w,ei]
   exact next_i (i+1) ⟨by omega,⟨by omega,yes (by rw[←hb1,w])⟩,at_0 rfl (args_eq (by simp[go_sem]) rfl)⟩
  ·simp[go_sem,w]
   exact bret (no (by rw[←hb1,w]))
 have k4':(x.kind==4)=false:=by simpa using k4
 rw[if_neg (fun h=>h.elim k2 k4)]at hb1
 simp[go_sem,k1',k3',k2',k4']
 exact bret (no hb1.symm)
def firstF {α:Type} (p:α→Bool):List α→Nat→Int
 | [],_=> -1
 |x::l,i=>if p x=true then(i:Int)else firstF p l (i+1)
theorem firstF_ge {α:Type} (p:α→Bool): ∀(l:List α) (i:Nat),decide (0≤firstF p l i)=l.any p
 | [],i=>rfl
 |x::l,i=>by
  rw[firstF,List.any_cons]
  split
  ·rename_i h;rw[h];exact decide_eq_true (by omega)
  ·rename_i h
   have h:p x=false:=by simpa using h
   rw[h,Bool.false_or,firstF_ge p l (i+1)]
theorem badR_w (x:GExpr) (hE:EOk x):Pure Tryz.prog 170 [.agg x.row] (.bool (!mayE 16 x)):=by
 have hme:=mayExpr_w 16 x (by decide) hE.wide hE.good
 generalize mayE 16 x=b at hme⊢
 simp only[Int.cast_ofNat_Int]at hme
 refine VCalls.intro 0 Tryz.func170 Tryz.ntmps170 Tryz.results170 rfl rfl (Nat.le_of_ble_eq_true rfl) fun c hc hb=>wcode_of ?_
 simp[go_sem]
 refine wVC_pure hme Tryz.callB120 (args_eq (by simp[go_sem]) (by rw[GExpr.row_eq];rfl)) rfl ?_
 simp[go_sem]
 exact wret_0 (argS_no rfl) ⟨rfl,rfl⟩
theorem badA_w (x:GAssign) (hn:x.name.length≤maxLen) (hE:EOk x.e):Pure Tryz.prog 171 [.agg x.row] (.bool (!mayA x)):=by
 have hme:=mayExpr_w 16 x.e (by decide) hE.wide hE.good
 have hw:=lexWord_w x.name hn
 generalize hM:(!mayA x)=M
 unfold mayA at hM
 generalize mayE 16 x.e=b at hme hM
 generalize wordF x.name=w at hw hM
 simp only[Int.cast_ofNat_Int]at hme
 refine VCalls.intro 0 Tryz.func171 Tryz.ntmps171 Tryz.results171 rfl rfl (Nat.le_of_ble_eq_true rfl) fun c hc hb=>wcode_of ?_
 simp[go_sem]
 refine wVC_pure hw Tryz.callB119 (args_eq (by simp[go_sem]) rfl) rfl ?_
 refine(Bool.eq_false_or_eq_true w).elim (fun p=> ?_) (fun p=> ?_)
 ·simp[go_sem,p]
  refine wVC_pure hme Tryz.callB120 (args_eq (by simp[go_sem]) (by rw[GExpr.row_eq];rfl)) rfl ?_
  simp[go_sem]
  exact bret (by rw[←hM,p,Bool.true_and])
 ·simp[go_sem,p]
  exact bret (by rw[←hM,p];rfl)
theorem idxR_w (l:List GExpr) (hl:l.length≤12) (hx: ∀x∈l,EOk x):Pure Tryz.prog 193 [.sl .ro (l.map GExpr.row),.fn 170 []] (.int .i64 (firstF (fun x=> !mayE 16 x) l 0)):=by
 generalize hM:firstF (fun x=> !mayE 16 x) l 0=M
 have ret: ∀(r:Int) (σ:St),r=M→wret (some (.int .i64 r)) 0 (fun r s=>r= .int .i64 M∧s= []) σ:=fun r σ h=>by subst h;exact wret_0 (argS_no rfl) ⟨rfl,rfl⟩
 refine VCalls.introV 0 Tryz.func193 Tryz.ntmps193 Tryz.results193 rfl rfl (Nat.le_of_ble_eq_true rfl) fun c hc hb=> ?_
 refine wVW_code ?_
 simp[go_sem]
 refine wVW_while (S:=Nat) [0,1,6,7,8] (fun i=> [.sl .ro (l.map GExpr.row),.fn 170 [],.sl .ro (l.map GExpr.row),.int .i64 l.length,.int .i64 (i:Int)]) (fun _=> []) (fun i=>l.length - i)
  (fun i=>i≤l.length∧firstF (fun x=> !mayE 16 x) (l.drop i) i=M) hc hb 0 ⟨Nat.zero_le _,hM⟩ ?_ ?_
 ·exact at_0 rfl (args_eq (by simp[go_sem]) rfl)
 rintro i ⟨hi,hinv⟩
 by_cases q:i<l.length
 rotate_left
 ·rw[List.drop_eq_nil_of_le (by omega)]at hinv
  refine wVW_code ?_
  simp[go_sem,q]
  exact ret _ _ hinv
 have ei:=i64_inc q (by omega)
 obtain⟨x,hxe⟩: ∃x,l[i]=x:=⟨_,rfl⟩
 rw[List.drop_eq_getElem_cons q,hxe,firstF]at hinv
 have hcall:=badR_w x (hx x (hxe▸List.getElem_mem q))
 generalize (!mayE 16 x)=b at hcall hinv
 refine wVW_code ?_
 simp[go_sem,q,hxe]
 refine wVC_pure hcall Tryz.callB170 (args_eq (by simp[go_sem]) (by rw[GExpr.row_eq];rfl)) rfl ?_
 refine(Bool.eq_false_or_eq_true b).elim (fun p=> ?_) (fun p=> ?_)
 ·rw[if_pos p]at hinv
  simp[go_sem,p]
  exact ret _ _ hinv
 ·rw[if_neg (by rw[p];decide)]at hinv
  simp[go_sem,p,ei]
  exact next_i (i+1) ⟨by omega,⟨by omega,hinv⟩,at_0 rfl (args_eq (by simp[go_sem]) rfl)⟩
theorem hasR_w (l:List GExpr) (hl:l.length≤12) (hx: ∀x∈l,EOk x):Pure Tryz.prog 169 [.sl .ro (l.map GExpr.row),.fn 170 []] (.bool (!l.all (mayE 16))):=by
 have h:=idxR_w l hl hx
 have hg:=firstF_ge (fun x=> !mayE 16 x) l 0
 have ha:l.any (fun x=> !mayE 16 x)= !l.all (mayE 16):=by rw[List.all_eq_not_any_not,Bool.not_not]
 rw[ha]at hg
 rw[←hg]
 generalize firstF (fun x=> !mayE 16 x) l 0=n at h⊢
 refine VCalls.intro 0 Tryz.func169 Tryz.ntmps169 Tryz.results169 rfl rfl (Nat.le_of_ble_eq_true rfl) fun c hc hb=>wcode_of ?_
 simp[go_sem]
 refine wVC_pure h Tryz.callB193 (args_eq (by simp[go_sem]) rfl) rfl ?_
 simp[go_sem]
 exact wret_0 (argS_no rfl) ⟨rfl,rfl⟩
theorem idxA_w (l:List GAssign) (hl:l.length≤12) (hx: ∀x∈l,x.name.length≤1048576∧EOk x.e):Pure Tryz.prog 176 [.sl .ro (l.map GAssign.row),.fn 171 []] (.int .i64 (firstF (fun x=> !mayA x) l 0)):=by
 generalize hM:firstF (fun x=> !mayA x) l 0=M
 have ret: ∀(r:Int) (σ:St),r=M→wret (some (.int .i64 r)) 0 (fun r s=>r= .int .i64 M∧s= []) σ:=fun r σ h=>by subst h;exact wret_0 (argS_no rfl) ⟨rfl,rfl⟩
 refine VCalls.introV 0 Tryz.func176 Tryz.ntmps176 Tryz.results176 rfl rfl (Nat.le_of_ble_eq_true rfl) fun c hc hb=> ?_
 refine wVW_code ?_
 simp[go_sem]
 refine wVW_while (S:=Nat) [0,1,6,7,8] (fun i=> [.sl .ro (l.map GAssign.row),.fn 171 [],.sl .ro (l.map GAssign.row),.int .i64 l.length,.int .i64 (i:Int)]) (fun _=> []) (fun i=>l.length - i)
  (fun i=>i≤l.length∧firstF (fun x=> !mayA x) (l.drop i) i=M) hc hb 0 ⟨Nat.zero_le _,hM⟩ ?_ ?_
 ·exact at_0 rfl (args_eq (by simp[go_sem]) rfl)
 rintro i ⟨hi,hinv⟩
 by_cases q:i<l.length
 rotate_left
 ·rw[List.drop_eq_nil_of_le (by omega)]at hinv
  refine wVW_code ?_
  simp[go_sem,q]
  exact ret _ _ hinv
 have ei:=i64_inc q (by omega)
 obtain⟨x,hxe⟩: ∃x,l[i]=x:=⟨_,rfl⟩
 rw[List.drop_eq_getElem_cons q,hxe,firstF]at hinv
 obtain⟨hxn,hxE⟩:=hx x (hxe▸List.getElem_mem q)
 have hcall:=badA_w x (by unfold maxLen;omega) hxE
 generalize (!mayA x)=b at hcall hinv
 refine wVW_code ?_
 simp[go_sem,q,hxe]
 refine wVC_pure hcall Tryz.callB171 (args_eq (by simp[go_sem]) rfl) rfl ?_
 refine(Bool.eq_false_or_eq_true b).elim (fun p=> ?_) (fun p=> ?_)
 ·rw[if_pos p]at hinv
  simp[go_sem,p]
  exact ret _ _ hinv
 ·rw[if_neg (by rw[p];decide)]at hinv
  simp[go_sem,p,ei]
  exact next_i (i+1) ⟨by omega,⟨by omega,hinv⟩,at_0 rfl (args_eq (by simp[go_sem]) rfl)⟩
theorem hasA_w (l:List GAssign) (hl:l.length≤12) (hx: ∀x∈l,x.name.length≤1048576∧EOk x.e):Pure Tryz.prog 128 [.sl .ro (l.map GAssign.row),.fn 171 []] (.bool (!l.all mayA)):=by
 have h:=idxA_w l hl hx
 have hg:=firstF_ge (fun x=> !mayA x) l 0
 have ha:l.any (fun x=> !mayA x)= !l.all mayA:=by rw[List.all_eq_not_any_not,Bool.not_not]
 rw[ha]at hg
 rw[←hg]
 generalize firstF (fun x=> !mayA x) l 0=n at h⊢
 refine VCalls.intro 0 Tryz.func128 Tryz.ntmps128 Tryz.results128 rfl rfl (Nat.le_of_ble_eq_true rfl) fun c hc hb=>wcode_of ?_
 simp[go_sem]
 refine wVC_pure h Tryz.callB176 (args_eq (by simp[go_sem]) rfl) rfl ?_
 simp[go_sem]
 exact wret_0 (argS_no rfl) ⟨rfl,rfl⟩
end Go.Proofs.YtajjjghohakniaaGreat
namespace Go.Proofs.YtajjjghohakniaaGreat
open Go Go.Vx R
set_option maxRecDepth 100000
theorem dec1 (n:Nat):decide ((1:Int)≤n)=decide (1≤n):=decide_eq_decide.2 (by omega)
theorem decLe (n k:Nat):decide ((n:Int)≤k)=decide (n≤k):=decide_eq_decide.2 (by omega)
theorem mayRows_w (l:List (List GExpr)) (hl:l.length≤20) (hx: ∀r∈l,r.length≤12∧ ∀e∈r,EOk e):Pure Tryz.prog 123 [.sl .ro (l.map fun r=> [V.sl .ro (r.map GExpr.row)])] (.bool (mayRs l)):=by
 obtain⟨n,hn⟩: ∃n,l.length=n:=⟨_,rfl⟩
 generalize hM:mayRs l=M
 unfold mayRs at hM
 rw[hn]at hM
 have e1:=dec1 n
 have e2:decide ((n:Int)≤16)=decide (n≤16):=decLe n 16
 refine VCalls.introV 0 Tryz.func123 Tryz.ntmps123 Tryz.results123 rfl rfl (Nat.le_of_ble_eq_true rfl) fun c hc hb=> ?_
 refine wVW_code ?_
 simp[go_sem]
 refine wVW_while (S:=Nat) [0,5,6,7] (fun i=> [.sl .ro (l.map fun r=> [V.sl .ro (r.map GExpr.row)]),.sl .ro (l.map fun r=> [V.sl .ro (r.map GExpr.row)]),.int .i64 n,.int .i64 (i:Int)]) (fun _=> []) (fun i=>n - i)
  (fun i=>i≤n∧((l.drop i).all mayR&&(decide (1≤n)&&decide (n≤16)))=M) hc hb 0 ⟨Nat.zero_le _,by rw[List.drop_zero];exact hM⟩ ?_ ?_
 ·exact at_0 rfl (args_eq (by simp[go_sem,hn]) rfl)
 rintro i ⟨hi,hinv⟩
 by_cases q:i<n
 rotate_left
 ·rw[List.drop_eq_nil_of_le (by omega),List.all_nil,Bool.true_and]at hinv
  refine wVW_code ?_
  simp[go_sem,q,hn,e1,e2]
  refine wgrd_i (fun w=> ?_) (fun w=> ?_)
  ·simp[go_sem,w,hn,e2]
   exact bret (by rw[←hinv,w,Bool.true_and])
  ·simp[go_sem,w]
   exact bret (by rw[←hinv,w];rfl)
 have hq:i<l.length:=by omega
 have ei:=i64_inc q (by omega)
 rw[all_drop _ _ _ hq]at hinv
 obtain⟨r,hr⟩: ∃r,l[i]=r:=⟨_,rfl⟩
 obtain⟨hrl,hrE⟩:=hx r (hr▸List.getElem_mem hq)
 have hcall:=hasR_w r hrl hrE
 rw[hr]at hinv
 obtain⟨b,hb1⟩: ∃b,mayR r=b:=⟨_,rfl⟩
 rw[hb1]at hinv
 unfold mayR at hb1
 have yes:b=true→((l.drop (i+1)).all mayR&&(decide (1≤n)&&decide (n≤16)))=M:=fun h=>by rw[h,Bool.true_and]at hinv;exact hinv
 have no:b=false→false=M:=fun h=>by rw[h]at hinv;exact hinv
 clear hinv
 generalize r.all (mayE 16)=ra at hcall hb1
 have hr0:((r.length:Int)==0)= !decide (1≤r.length):=by
  cases r with
  |nil=>rfl
  |cons _ _=>rw[decide_eq_true (by simp)];simp;omega
 have hr6:decide ((6:Int)<r.length)= !decide (r.length≤6):=by
  by_cases h:r.length≤6
  ·rw[decide_eq_true h,decide_eq_false (by omega)];rfl
  ·rw[decide_eq_false h,decide_eq_true (by omega)];rfl
 generalize decide (1≤r.length)=d1 at hr0 hb1
 generalize decide (r.length≤6)=d2 at hr6 hb1
 refine wVW_code ?_
 simp[go_sem,q,hq,hr,hr0]
 refine(Bool.eq_false_or_eq_true d1).elim (fun w=> ?_) (fun w=> ?_)
 rotate_left
 ·simp[go_sem,w]
  exact bret (no (by rw[←hb1,w];rfl))
 simp[go_sem,w,hr6]
 refine(Bool.eq_false_or_eq_true d2).elim (fun w2=> ?_) (fun w2=> ?_)
 rotate_left
 ·simp[go_sem,w2]
  exact bret (no (by rw[←hb1,w,w2];rfl))
 simp[go_sem,w2]
 refine wVC_pure hcall Tryz.callB169 (args_eq (by simp[go_sem]) rfl) rfl ?_
 simp[go_sem]
 refine(Bool.eq_false_or_eq_true ra).elim (fun w3=> ?_) (fun w3=> ?_)
 ·simp[go_sem,w3,ei]
  exact next_i (i+1) ⟨by omega,⟨by omega,yes (by rw[←hb1,w,w2,w3];rfl)⟩,at_0 rfl (args_eq (by simp[go_sem]) rfl)⟩
 ·simp[go_sem,w3]
  exact bret (no (by rw[←hb1,w,w2,w3];rfl))
theorem maySets_w (l:List GAssign) (hl:l.length≤12) (hx: ∀x∈l,x.name.length≤1048576∧EOk x.e):Pure Tryz.prog 124 [.sl .ro (l.map GAssign.row)] (.bool (mayAs l)):=by
 have hcall:=hasA_w l hl hx
 generalize hM:mayAs l=M
 unfold mayAs at hM
 generalize l.all mayA=a at hcall hM
 obtain⟨n,hn⟩: ∃n,l.length=n:=⟨_,rfl⟩
 rw[hn]at hM
 have e1:=dec1 n
 have e2:decide ((n:Int)≤6)=decide (n≤6):=decLe n 6
 refine VCalls.intro 0 Tryz.func124 Tryz.ntmps124 Tryz.results124 rfl rfl (Nat.le_of_ble_eq_true rfl) fun c hc hb=>wcode_of ?_
 simp[go_sem,hn,e1,e2]
 refine wgrd_i (fun w=> ?_) (fun w=> ?_)
 rotate_left
 ·simp[go_sem,w]
  exact bret (by rw[←hM,w];rfl)
 simp[go_sem,w,hn,e2]
 refine wgrd_i (fun w2=> ?_) (fun w2=> ?_)
 rotate_left
 ·simp[go_sem,w2]
  exact bret (by rw[←hM,w,w2];rfl)
 simp[go_sem,w2]
 refine wVC_pure hcall Tryz.callB128 (args_eq (by simp[go_sem]) rfl) rfl ?_
 simp[go_sem]
 exact bret (by rw[←hM,w,w2];rfl)
def shapeS (st:GStmt):Bool:=
 !((!(st.kind==1)&&(!st.items.isEmpty||(!st.order.isEmpty||(st.down|| !(st.limit==0)))))||((!(st.kind==2)&& !st.rows.isEmpty)||(!(st.kind==3)&& !st.sets.isEmpty)))
def headS (st:GStmt):Bool:=wordF st.table&&(if st.filtered=true then mayE 16 st.where_ else blankE st.where_)
def bodyS (st:GStmt):Bool:=
 if st.kind=1 then mayIs st.items&&(((st.order.isEmpty&& !st.down)||wordF st.order)&&decide (-1≤st.limit))
 else if st.kind=2 then mayRs st.rows&& !st.filtered
 else if st.kind=3 then mayAs st.sets
 else st.kind==4
def mayS (st:GStmt):Bool:=headS st&&(shapeS st&&bodyS st)
theorem len_pos00 {α:Type} (l:List α):decide (0<l.length)= !l.isEmpty:=by
 cases l with
 |nil=>rfl
 |cons _ _=>exact decide_eq_true (by simp only[List.length_cons];omega)
set_option maxHeartbeats 4000000 in
theorem mayStmt_w (st:GStmt) (hs:SOk st):Pure Tryz.prog 74 [.agg st.row] (.bool (mayS st)):=by
 have hwt:=lexWord_w st.table (by have:=hs.table;unfold maxLen;omega)
 have hwo:=lexWord_w st.order (by have:=hs.order;unfold maxLen;omega)
 have hme:=mayExpr_w 16 st.where_ (by decide) hs.where_.wide hs.where_.good
 have hbl:=blank_w st.where_ (by have:=hs.where_.wide.len;unfold maxLen;omega)
 have hit:=mayItems_w st.items hs.items.1 hs.items.2
 have hro:=mayRows_w st.rows hs.rows.1 hs.rows.2
 have hse:=maySets_w st.sets hs.sets.1 hs.sets.2
 simp only[Int.cast_ofNat_Int]at hme
 generalize hM:mayS st=M
 unfold mayS headS shapeS bodyS at hM
 obtain⟨k,hk⟩: ∃k,st.kind=k:=⟨_,rfl⟩
 obtain⟨f,hf⟩: ∃f,st.filtered=f:=⟨_,rfl⟩
 obtain⟨d,hd⟩: ∃d,st.down=d:=⟨_,rfl⟩
 rw[hk,hf,hd]at hM
 generalize wordF st.table=wt at hwt hM
 generalize wordF st.order=wo at hwo hM
 generalize mayE 16 st.where_=me at hme hM
 generalize blankE st.where_=bl at hbl hM
 generalize mayIs st.items=mi at hit hM
 generalize mayRs st.rows=mr at hro hM
 generalize mayAs st.sets=ms at hse hM
 have hi0:=len_pos00 st.items
 have hr0:=len_pos00 st.rows
 have hs0:=len_pos00 st.sets
 have ho0:(st.order != [])= !st.order.isEmpty:=by cases st.order<;>rfl
 have ho1:(st.order== [])=st.order.isEmpty:=by cases st.order<;>rfl
 generalize st.items.isEmpty=ie at hi0 hM
 generalize st.rows.isEmpty=re at hr0 hM
 generalize st.sets.isEmpty=se at hs0 hM
 have hz: ∀b:Bool,b=M→ ∀σ:St,wret (some (.bool b)) 0 (fun r s=>r= .bool M∧s= []) σ:=fun b h σ=>bret h
 have step1:((wt&&(if f=true then me else bl))=false→false=M)∧((wt&&(if f=true then me else bl))=true→(!((!(k==1)&&(!ie||(!st.order.isEmpty||(d|| !(st.limit==0)))))||((!(k==2)&& !re)||(!(k==3)&& !se)))&&(if k=1 then mi&&(((st.order.isEmpty&& !d)||wo)&&decide (-1≤st.limit))else if k=2 then mr&& !f else if k=3 then ms else k==4))=M):=by
  constructor
  ·intro h;rw[h]at hM;exact hM
  ·intro h;rw[h,Bool.true_and]at hM;exact hM
 obtain⟨no1,yes1⟩:=step1
 clear hM
 refine VCalls.introV 0 Tryz.func74 Tryz.ntmps74 Tryz.results74 rfl rfl (Nat.le_of_ble_eq_true rfl) fun c hc hb=> ?_
 refine wVW_seq (wVW_code ?_)
 simp[go_sem]
 refine wVW_cut (S:=Unit) [1] (fun _=> [.ptr 0 0]) (fun _=> [.box st.row]) (fun _=>(wt&&(if f=true then me else bl))=true) hc hb ?_ ?_
 ·refine wVW_code ?_
  simp[go_sem]
  refine wVC_pure hwt Tryz.callB119 (args_eq (by simp[go_sem]) rfl) rfl ?_
  refine(Bool.eq_false_or_eq_true wt).elim (fun w=> ?_) (fun w=> ?_)
  rotate_left
  ·simp[go_sem,w]
   exact bret (no1 (by rw[w];rfl))
  simp[go_sem,w,hf]
  refine(Bool.eq_false_or_eq_true f).elim (fun w2=> ?_) (fun w2=> ?_)
  ·simp[go_sem,w2]
   refine wVC_pure hme Tryz.callB120 (args_eq (by simp[go_sem]) (by rw[GExpr.row_eq];rfl)) rfl ?_
   refine(Bool.eq_false_or_eq_true me).elim (fun w3=> ?_) (fun w3=> ?_)
   ·simp[go_sem,w3,hf,w2]
    exact next_i () ⟨by rw[w,w2,w3];rfl,at_n 1 (by simp[go_sem,hk,hf,hd,w2]) rfl (by simp[ltOb,ltC,ltK]) (Nat.zero_le _) (args_lt_eq (by simp[go_sem]) rfl)⟩
   ·simp[go_sem,w3]
    exact bret (no1 (by rw[w,w2,w3];rfl))
  ·simp[go_sem,w2,hf]
   refine wVC_pure hbl Tryz.callB121 (args_eq (by simp[go_sem]) (by rw[GExpr.row_eq];rfl)) rfl ?_
   refine(Bool.eq_false_or_eq_true bl).elim (fun w3=> ?_) (fun w3=> ?_)
   ·simp[go_sem,w3]
    exact next_i () ⟨by rw[w,w2,w3];rfl,at_n 1 (by simp[go_sem,hk,hf,hd,w2]) rfl (by simp[ltOb,ltC,ltK]) (Nat.zero_le _) (args_lt_eq (by simp[go_sem]) rfl)⟩
   ·simp[go_sem,w3]
    exact bret (no1 (by rw[w,w2,w3];rfl))
 ·rintro _ h1
  have hM:=yes1 h1
  clear no1 yes1
  generalize hB:(if k=1 then mi&&(((st.order.isEmpty&& !d)||wo)&&decide (-1≤st.limit))else if k=2 then mr&& !f else if k=3 then ms else k==4)=B at hM
  obtain⟨S,hS⟩: ∃S,((!(k==1)&&(!ie||(!st.order.isEmpty||(d|| !(st.limit==0)))))||((!(k==2)&& !re)||(!(k==3)&& !se)))=S:=⟨_,rfl⟩
  rw[hS]at hM
  have no:S=true→false=M:=fun h=>by rw[h]at hM;exact hM
  have yes:S=false→B=M:=fun h=>by rw[h]at hM;exact hM
  clear hM
  have hl0:(st.limit !=0)= !(st.limit==0):=rfl
  have hk2:(st.kind !=2)= !(k==2):=by rw[hk];rfl
  have hk3:(st.kind !=3)= !(k==3):=by rw[hk];rfl
  have hk1:(st.kind==1)=(k==1):=by rw[hk]
  refine wVW_seq (wVW_code ?_)
  simp[go_sem]
  refine wVW_cut (S:=Unit) [1] (fun _=> [.ptr 0 0]) (fun _=> [.box st.row]) (fun _=>S=false) hc hb ?_ ?_
  ·generalize (st.limit==0)=l0 at hl0 hS
   generalize (k==1)=k1 at hk1 hS
   generalize (k==2)=k2 at hk2 hS
   generalize (k==3)=k3 at hk3 hS
   clear yes hB
   refine wVW_code ?_
   simp[go_sem,hk1]
   repeat' (first
    |(refine wgrd_i (fun w=> ?_) (fun w=> ?_)<;>simp[go_sem,w,hk1,hk2,hk3,hl0,hi0,hr0,hs0,ho0,hd])
    |(refine wcond_i (fun w=> ?_) (fun w=> ?_)<;>simp[go_sem,w,hk1,hk2,hk3,hl0,hi0,hr0,hs0,ho0,hd]))
   all_goals first
    |exact bret (no (by rw[←hS];simp_all))
    |exact next_i () ⟨by rw[←hS];simp_all,at_n 1 (by simp[go_sem,hd]<;>simp_all) rfl (by simp[ltOb,ltC,ltK]) (Nat.zero_le _) (args_lt_eq (by simp[go_sem]) rfl)⟩
  ·rintro _ hSf
   have hM:=yes hSf
   rw[←hB]at hM
   clear yes no hS hB
   refine wVW_code ?_
   simp[go_sem,hk]
   by_cases k1:k=1
   ·have k1':(k==1)=true:=by simpa using k1
    rw[if_pos k1]at hM
    have hlm:decide (-1≤st.limit)=decide (-1≤st.limit):=rfl
    simp[go_sem,k1']
    refine wVC_pure hit Tryz.callB122 (args_eq (by simp[go_sem]) rfl) rfl ?_
    simp[go_sem]
    repeat' (first
     |(refine wgrd_i (fun w=> ?_) (fun w=> ?_)<;>simp[go_sem,w,ho1,hd])
     |(refine wVC_pure hwo Tryz.callB119 (args_eq (by simp[go_sem]) rfl) rfl ?_;simp[go_sem]))
    all_goals exact bret (by rw[←hM];simp_all)
   have k1':(k==1)=false:=by simpa using k1
   rw[if_neg k1]at hM
   by_cases k2:k=2
   ·have k2':(k==2)=true:=by simpa using k2
    rw[if_pos k2]at hM
    simp[go_sem,k1',k2']
    refine wVC_pure hro Tryz.callB123 (args_eq (by simp[go_sem]) rfl) rfl ?_
    simp[go_sem]
    refine(Bool.eq_false_or_eq_true mr).elim (fun w=> ?_) (fun w=> ?_)
    ·simp[go_sem,w,hf]
     exact bret (by rw[←hM,w];rfl)
    ·simp[go_sem,w]
     exact bret (by rw[←hM,w];rfl)
   have k2':(k==2)=false:=by simpa using k2
   rw[if_neg k2]at hM
   by_cases k3:k=3
   ·have k3':(k==3)=true:=by simpa using k3
    rw[if_pos k3]at hM
    simp[go_sem,k1',k2',k3']
    refine wVC_pure hse Tryz.callB124 (args_eq (by simp[go_sem]) rfl) rfl ?_
    simp[go_sem]
    exact bret hM
   have k3':(k==3)=false:=by simpa using k3
   rw[if_neg k3]at hM
   simp[go_sem,k1',k2',k3',hk]
   exact bret hM
def headL (l:GLot):Bool:=(decide (0≤l.mode)&&(decide (l.mode≤2)&&(decide (0≤l.n)&&(!(l.mode==0&& !(l.n==0))))))&&(decide (1≤l.stmts.length)&&decide (l.stmts.length≤8))
def mayL (l:GLot):Bool:=headL l&&l.stmts.all mayS
set_option maxHeartbeats 1000000 in
theorem treeMay_w (l:GLot) (hl:LOk l):Pure Tryz.prog 30 [.agg l.row] (.bool (mayL l)):=by
 obtain⟨L,hL⟩: ∃L,l.stmts=L:=⟨_,rfl⟩
 obtain⟨m,hm⟩: ∃m,l.mode=m:=⟨_,rfl⟩
 obtain⟨n,hn⟩: ∃n,l.n=n:=⟨_,rfl⟩
 obtain⟨hLl,hLs⟩:=hl.stmts
 rw[hL]at hLl hLs
 generalize hM:mayL l=M
 unfold mayL headL at hM
 rw[hL,hm,hn]at hM
 have no: ∀h:Bool,(h&&L.all mayS)=M→h=false→false=M:=fun h q w=>by rw[w]at q;exact q
 refine VCalls.introV 0 Tryz.func30 Tryz.ntmps30 Tryz.results30 rfl rfl (Nat.le_of_ble_eq_true rfl) fun c hc hb=> ?_
 refine wVW_seq (wVW_code ?_)
 simp[go_sem]
 refine wVW_cut (S:=Unit) [1] (fun _=> [.ptr 0 0]) (fun _=> [.box l.row]) (fun _=>L.all mayS=M) hc hb ?_ ?_
 ·have d1:decide (m<0)= !decide (0≤m):=by
   by_cases h:0≤m
   ·rw[decide_eq_true h,decide_eq_false (by omega)];rfl
   ·rw[decide_eq_false h,decide_eq_true (by omega)];rfl
  have d2:decide (2<m)= !decide (m≤2):=by
   by_cases h:m≤2
   ·rw[decide_eq_true h,decide_eq_false (by omega)];rfl
   ·rw[decide_eq_false h,decide_eq_true (by omega)];rfl
  have d3:decide (n<0)= !decide (0≤n):=by
   by_cases h:0≤n
   ·rw[decide_eq_true h,decide_eq_false (by omega)];rfl
   ·rw[decide_eq_false h,decide_eq_true (by omega)];rfl
  have d4:((L.length:Int)==0)= !decide (1≤L.length):=by
   by_cases h:1≤L.length
   ·rw[decide_eq_true h];simp;intro hh;rw[hh]at h;simp at h
   ·rw[decide_eq_false h]
    have:L= []:=List.eq_nil_of_length_eq_zero (by omega)
    rw[this];rfl
  have d5:decide ((8:Int)<L.length)= !decide (L.length≤8):=by
   by_cases h:L.length≤8
   ·rw[decide_eq_true h,decide_eq_false (by omega)];rfl
   ·rw[decide_eq_false h,decide_eq_true (by omega)];rfl
  have d6:(n !=0)= !(n==0):=rfl
  generalize decide (0≤m)=b1 at d1 hM
  generalize decide (m≤2)=b2 at d2 hM
  generalize decide (0≤n)=b3 at d3 hM
  generalize decide (1≤L.length)=b4 at d4 hM
  generalize decide (L.length≤8)=b5 at d5 hM
  generalize (n==0)=b6 at d6 hM
  have no1:=no _ hM
  have yes1:((b1&&(b2&&(b3&&(!(m==0&& !b6)))))&&(b4&&b5))=true→L.all mayS=M:=fun h=>by rw[h,Bool.true_and]at hM;exact hM
  generalize hm0:(m==0)=b7 at no1 yes1
  clear hM no
  refine wVW_code ?_
  simp[go_sem,hm,hn,hL,d1]
  repeat' (first
   |(refine wgrd_i (fun w=> ?_) (fun w=> ?_)<;>simp[go_sem,w,hm,hn,hL,hm0,d1,d2,d3,d4,d5,d6])
   |(refine wcond_i (fun w=> ?_) (fun w=> ?_)<;>simp[go_sem,w,hm,hn,hL,hm0,d1,d2,d3,d4,d5,d6]))
  all_goals first
   |exact bret (no1 (by simp_all))
   |exact next_i () ⟨yes1 (by simp_all),at_n 1 (by simp[go_sem,hm,hn,hL]) rfl (by simp[ltOb,ltC,ltK]) (Nat.zero_le _) (args_lt_eq (by simp[go_sem]) rfl)⟩
 ·rintro _ hM
  refine wVW_code ?_
  simp[go_sem,hL]
  refine wVW_while (S:=Nat) [41,42,43] (fun i=> [.sl .ro (L.map GStmt.row),.int .i64 L.length,.int .i64 (i:Int)]) (fun _=> []) (fun i=>L.length - i) (fun i=>i≤L.length∧(L.drop i).all mayS=M) hc hb 0 ⟨Nat.zero_le _,by rw[List.drop_zero];exact hM⟩ ?_ ?_
  ·exact at_0 rfl (args_eq (by simp[go_sem]) rfl)
  rintro i ⟨hi,hinv⟩
  by_cases q:i<L.length
  rotate_left
  ·rw[List.drop_eq_nil_of_le (by omega)]at hinv
   refine wVW_code ?_
   simp[go_sem,q]
   exact bret hinv
  have ei:=i64_inc q (by omega)
  rw[all_drop _ _ _ q]at hinv
  obtain⟨st,hst⟩: ∃st,L[i]=st:=⟨_,rfl⟩
  have hcall:=mayStmt_w st (hLs st (hst▸List.getElem_mem q))
  rw[hst]at hinv
  generalize mayS st=b at hcall hinv
  refine wVW_code ?_
  simp[go_sem,q,hst]
  refine wVC_pure hcall Tryz.callB74 (args_eq (by simp[go_sem]) rfl) rfl ?_
  refine(Bool.eq_false_or_eq_true b).elim (fun p=> ?_) (fun p=> ?_)
  ·rw[p,Bool.true_and]at hinv
   simp[go_sem,p,ei]
   exact next_i (i+1) ⟨by omega,⟨by omega,hinv⟩,at_0 rfl (args_eq (by simp[go_sem]) rfl)⟩
  ·rw[p,Bool.false_and]at hinv
   simp[go_sem,p]
   exact bret hinv
end Go.Proofs.YtajjjghohakniaaGreat
