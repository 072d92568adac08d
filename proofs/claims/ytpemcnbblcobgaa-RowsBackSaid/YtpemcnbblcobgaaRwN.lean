/-
  Contracts of functions that the claimed statement reaches, each proved over trees (the library Vx); used by the theorem at the end of the claim.
  Conditions: as each theorem states them.
-/
import Derived.Test.YtpemcnbblcobgaaRwM
namespace Go.Proofs.Ytpemcnbblcobgaa
open Go Go.Vx
set_option maxRecDepth 100000

theorem takeF_le (b : List UInt8) : (takeF b).e = 0 → (takeF b).n ≤ b.length := by
  cases b with
  | nil => simp [takeF]
  | cons c rest =>
    have h1 := takeG_le rest 0 0
    have h2 := takeText_le rest
    rw [takeF]
    unfold takeC takeBoolF
    revert h1 h2
    generalize takeG rest 0 0 = r
    generalize takeTextF rest = t
    obtain ⟨rn, rk, re⟩ := r
    obtain ⟨tx, tk, te⟩ := t
    intro h1 h2
    simp only at h1 h2
    (repeat' split) <;> intro h <;> simp at h ⊢ <;> (try omega)
    · rename_i q1 q2 q3; simp only [List.length_cons] at q2; omega
    · rename_i q; simp at q; have := h1 q; omega

/-- So many values, and nothing behind them. -/
def rowG : Nat → List UInt8 → Option (List GValue)
  | 0, b => if b = [] then some [] else none
  | n + 1, b => if (takeF b).e = 0 then (rowG n (b.drop (takeF b).n)).map ((takeF b).v :: ·) else none
def rowR (o : Option (List GValue)) : List GValue × Int := match o with
  | some l => (l, 0)
  | none => ([], 9)
def rowC (nc : Nat) (data : List UInt8) : List GValue × Int :=
  if (takeG data 0 0).2.2 = 0 ∧ (takeG data 0 0).1 = nc then rowR (rowG nc (data.drop (takeG data 0 0).2.1)) else ([], 9)
def rowF (ts : List GTable) (table : Int) (data : List UInt8) : List GValue × Int :=
  if h : 0 ≤ table ∧ table < ts.length then rowC (ts[table.toNat]'(by omega)).cols.length data else ([], 1)
theorem byteRows_cut (b : List UInt8) (k : Nat) : List.drop k (List.take b.length (byteRows b)) = byteRows (b.drop k) := by
  rw [List.take_of_length_le (by rw [byteRows_len]; exact Nat.le_refl _)]
  simp [byteRows, List.map_drop]
def rowV (r : List GValue × Int) : V := .tup [.sl .ro (r.1.map GValue.row), .int .i64 r.2]

theorem row_ret {r : List GValue × Int} {l : List GValue} {g : Tag} {e : Int} {σ : St} (h : r = (l, e)) : wret (some (.tup [.sl g (l.map GValue.row), .int .i64 e])) 0 (fun v s => v = rowV r ∧ s = []) σ := by
  subst h
  exact wret_0 (r := rowV (l, e)) (argS_tup (vs' := [.sl .ro (l.map GValue.row), .int .i64 e]) ⟨argA_ro, argA_no rfl, trivial⟩) ⟨rfl, rfl⟩
theorem row_ret0 {r : List GValue × Int} {g : Tag} {e : Int} {σ : St} (h : r = ([], e)) : wret (some (.tup [.sl g [], .int .i64 e])) 0 (fun v s => v = rowV r ∧ s = []) σ := row_ret (l := []) h

theorem Row_w (regs : List (List V)) (ts : List GTable) (table : Int) (data : List UInt8) (hd : data.length ≤ maxB) (hts : ∀ t ∈ ts, t.cols.length ≤ maxB) :
    Pure Try.prog 17 [.agg [.sl .ro regs, .sl .ro (ts.map GTable.row)], .int .i64 table, .str data] (rowV (rowF ts table data)) := by
  have hlt := takeG_lt data 0 0 (by decide) (by decide)
  have hle := takeG_le data 0 0
  have htv := TakeVar_w data hd
  by_cases ht : 0 ≤ table ∧ table < ts.length
  · obtain ⟨j, rfl⟩ : ∃ j : Nat, table = j := ⟨table.toNat, by omega⟩
    have hj : j < ts.length := by omega
    obtain ⟨t, htj⟩ : ∃ t, ts[j] = t := ⟨_, rfl⟩
    have hnc := hts t (htj ▸ List.getElem_mem hj)
    have hF : rowF ts j data = rowC t.cols.length data := by
      unfold rowF
      rw [dif_pos ht]
      simp [htj]
    rw [hF]
    unfold rowC
    revert hlt hle htv
    generalize takeG data 0 0 = r
    obtain ⟨n, k, e⟩ := r
    intro hlt hle htv
    simp only at hlt hle ⊢
    obtain ⟨nc, hnce⟩ : ∃ nc, t.cols.length = nc := ⟨_, rfl⟩
    rw [hnce] at hnc ⊢
    have eu : IntKind.u64.wrap (nc : Int) = nc := u64_id (by omega) (by unfold maxB at hnc; omega)
    refine VCalls.introV 0 Try.func17 Try.ntmps17 Try.results17 rfl rfl (Nat.le_of_ble_eq_true rfl) fun c hc hb => ?_
    refine wVW_code ?_
    simp [go_sem]
    refine wVC_pure (is_w regs (ts.map GTable.row) j) Try.callB26 (args_no rfl) rfl ?_
    simp [go_sem, hj]
    refine wVC_pure htv Try.callB35 (args_eq (by simp [bys, byteRows]) rfl) rfl ?_
    simp [go_sem, takeV]
    have bad : ∀ σ : St, ¬(e = 0 ∧ n = nc) → wret (some (.tup [.sl .full [], .int .i64 9])) 0 (fun v s => v = rowV (if e = 0 ∧ n = nc then rowR (rowG nc (data.drop k)) else ([], 9)) ∧ s = []) σ := fun σ h => row_ret0 (by rw [if_neg h])
    refine wgrd_i (fun q1r => ?_) (fun q1r => ?_)
    · have q1 : e = 0 := by simpa using q1r
      simp [go_sem, q1r, hj, htj, hnce, eu]
      refine wcond_i (fun q2 => ?_) (fun q2 => ?_)
      · have q2 : ¬ n = nc := by simp at q2; omega
        simp [go_sem]
        exact bad _ (fun h => q2 h.2)
      have q2 : n = nc := by simp at q2; omega
      have hk := hle q1
      rw [if_pos ⟨q1, q2⟩]
      simp [go_sem]
      refine wVW_app 12 3 (by decide) rfl ?_
      refine wVW_while (S := Nat × Nat × List GValue) [8, 10, 12, 42, 43] (fun u => [bys data, .int .i64 u.2.1, .sl (.app 1) (u.2.2.map GValue.row), .int .u64 nc, .int .u64 u.1]) (fun u => [.box [.sl .ro regs, .sl .ro (ts.map GTable.row)], .app u.2.2.length 3]) (fun u => nc - u.1)
        (fun u => u.1 ≤ nc ∧ u.2.1 ≤ data.length ∧ u.2.2.length = u.1 ∧ (rowG (nc - u.1) (data.drop u.2.1)).map (u.2.2 ++ ·) = rowG nc (data.drop k)) hc hb (0, k, []) ⟨Nat.zero_le _, by simp only; omega, rfl, by simp⟩ ?_ ?_
      · exact at_n 2 (by simp) rfl rfl (Nat.zero_le _) (args_lt_eq (by simp [go_sem, bys, byteRows, q2]) rfl)
      rintro ⟨i, at_, l⟩ ⟨hi, hat, hll, hrow⟩
      simp only at hi hat hll hrow
      have hd2 : data.length - at_ ≤ maxB := by omega
      have htk := Take_w (data.drop at_) (by simp; omega)
      have htl := takeF_le (data.drop at_)
      rw [List.length_drop] at htl
      refine wVW_code ?_
      simp [go_sem]
      refine wcond_i (fun q3 => ?_) (fun q3 => ?_)
      · have q3 : i < nc := by simpa using q3
        rw [show nc - i = (nc - i - 1) + 1 by omega, rowG] at hrow
        revert htk htl hrow
        generalize takeF (data.drop at_) = r
        obtain ⟨⟨vk, vn, vs⟩, rn, re⟩ := r
        intro hrow htk htl
        simp only at htl hrow
        simp [go_sem, bys, byteRows_len]
        refine wneed_i ⟨by omega, byteRows_u data⟩ ?_
        simp [go_sem]
        refine wVC_pure htk Try.callB36 (args_eq (by simp [bys, byteRows_cut]) rfl) rfl ?_
        simp [go_sem, TakeR.V]
        refine wcond_i (fun q4 => ?_) (fun q4 => ?_)
        · have q4 : ¬ re = 0 := by simpa using q4
          rw [if_neg q4] at hrow
          simp [go_sem]
          rw [← hrow]
          exact row_ret0 rfl
        have q4 : re = 0 := by simpa using q4
        rw [if_pos q4] at hrow
        have hrn := htl q4
        have ea : IntKind.i64.wrap ((at_ : Int) + rn) = ((at_ + rn : Nat) : Int) := by rw [i64_id (by omega) (by unfold maxB at hd; omega)]; omega
        have ei : IntKind.u64.wrap ((i : Int) + 1) = ((i + 1 : Nat) : Int) := by rw [u64_id (by omega) (by unfold maxB at hnc; omega)]; omega
        have hub : (l.length + 1) * 32 ≤ 140737488355328 := by unfold maxB at hnc; omega
        simp [go_sem]
        refine wneed_i ⟨by simpa using hub, uni_one rfl⟩ ?_
        simp [go_sem, ea, ei]
        refine next_i (i + 1, at_ + rn, l ++ [⟨vk, vn, vs⟩]) ⟨by simp only; omega, ⟨q3, by simp only; omega, by simp [hll], ?_⟩, at_n 2 (by simp) rfl rfl (Nat.zero_le _) (args_lt_eq (by simp [go_sem, bys, ea, ei]) rfl)⟩
        rw [← hrow]
        simp only
        rw [show nc - (i + 1) = nc - i - 1 by omega, List.drop_drop]
        cases rowG (nc - i - 1) (data.drop (at_ + rn)) <;> simp
      · have q3 : i = nc := by have : ¬ i < nc := by simpa using q3
                               omega
        subst q3
        simp [rowG] at hrow
        simp [go_sem, bys, byteRows_len]
        refine wcond_i (fun q4 => ?_) (fun q4 => ?_)
        · have q4 : at_ < data.length := by simpa using q4
          rw [if_neg (by omega)] at hrow
          simp [go_sem]
          rw [← hrow]
          exact row_ret0 rfl
        have q4 : data.length ≤ at_ := by simpa using q4
        rw [if_pos q4] at hrow
        simp [go_sem]
        rw [← hrow]
        exact row_ret (by simp [rowR])
    · have q1 : ¬ e = 0 := by simpa using q1r
      simp [go_sem, q1r]
      exact bad _ (fun h => q1 h.1)
  · have hF : rowF ts table data = ([], 1) := by
      unfold rowF
      rw [dif_neg ht]
    rw [hF]
    refine VCalls.introV 0 Try.func17 Try.ntmps17 Try.results17 rfl rfl (Nat.le_of_ble_eq_true rfl) fun c hc hb => ?_
    refine wVW_code ?_
    simp [go_sem]
    refine wVC_pure (is_w regs (ts.map GTable.row) table) Try.callB26 (args_no rfl) rfl ?_
    have hn : (decide (0 ≤ table) && decide (table < ((ts.map GTable.row).length : Int))) = false := by simp; omega
    rw [hn]
    simp [go_sem]
    exact row_ret0 rfl

theorem refRow_w (regs : List (List V)) (ts : List GTable) (table : Int) (data : List UInt8) (hd : data.length ≤ maxB) (hts : ∀ t ∈ ts, t.cols.length ≤ maxB) :
    Pure Try.prog 19 [.agg [.sl .ro regs, .sl .ro (ts.map GTable.row)], .int .i64 table, .str data] (rowV (rowF ts table data)) := by
  have hlt := takeG_lt data 0 0 (by decide) (by decide)
  have hle := takeG_le data 0 0
  have htv := refTakeVar_w data hd
  by_cases ht : 0 ≤ table ∧ table < ts.length
  · obtain ⟨j, rfl⟩ : ∃ j : Nat, table = j := ⟨table.toNat, by omega⟩
    have hj : j < ts.length := by omega
    obtain ⟨t, htj⟩ : ∃ t, ts[j] = t := ⟨_, rfl⟩
    have hnc := hts t (htj ▸ List.getElem_mem hj)
    have hF : rowF ts j data = rowC t.cols.length data := by
      unfold rowF
      rw [dif_pos ht]
      simp [htj]
    rw [hF]
    unfold rowC
    revert hlt hle htv
    generalize takeG data 0 0 = r
    obtain ⟨n, k, e⟩ := r
    intro hlt hle htv
    simp only at hlt hle ⊢
    obtain ⟨nc, hnce⟩ : ∃ nc, t.cols.length = nc := ⟨_, rfl⟩
    rw [hnce] at hnc ⊢
    have eu : IntKind.u64.wrap (nc : Int) = nc := u64_id (by omega) (by unfold maxB at hnc; omega)
    refine VCalls.introV 0 Try.func19 Try.ntmps19 Try.results19 rfl rfl (Nat.le_of_ble_eq_true rfl) fun c hc hb => ?_
    refine wVW_code ?_
    simp [go_sem]
    refine wVC_pure (refIs_w regs (ts.map GTable.row) j) Try.callB28 (args_no rfl) rfl ?_
    simp [go_sem, hj]
    refine wVC_pure htv Try.callB37 (args_eq (by simp [bys, byteRows]) rfl) rfl ?_
    simp [go_sem, takeV]
    have bad : ∀ σ : St, ¬(e = 0 ∧ n = nc) → wret (some (.tup [.sl .full [], .int .i64 9])) 0 (fun v s => v = rowV (if e = 0 ∧ n = nc then rowR (rowG nc (data.drop k)) else ([], 9)) ∧ s = []) σ := fun σ h => row_ret0 (by rw [if_neg h])
    refine wgrd_i (fun q1r => ?_) (fun q1r => ?_)
    · have q1 : e = 0 := by simpa using q1r
      simp [go_sem, q1r, hj, htj, hnce, eu]
      refine wcond_i (fun q2 => ?_) (fun q2 => ?_)
      · have q2 : ¬ n = nc := by simp at q2; omega
        simp [go_sem]
        exact bad _ (fun h => q2 h.2)
      have q2 : n = nc := by simp at q2; omega
      have hk := hle q1
      rw [if_pos ⟨q1, q2⟩]
      have en : IntKind.i64.wrap (nc : Int) = nc := i64_id (by omega) (by unfold maxB at hnc; omega)
      simp [go_sem, bys, byteRows_len]
      refine wneed_i ⟨by omega, byteRows_u data⟩ ?_
      simp [go_sem]
      refine wVW_app 12 3 (by decide) rfl ?_
      refine wVW_while (S := Nat × Nat × List GValue) [8, 9, 12, 13] (fun u => [bys (data.drop u.2.1), .int .u64 nc, .sl (.app 1) (u.2.2.map GValue.row), .int .i64 u.1]) (fun u => [.box [.sl .ro regs, .sl .ro (ts.map GTable.row)], .app u.2.2.length 3]) (fun u => nc - u.1)
        (fun u => u.1 ≤ nc ∧ u.2.1 ≤ data.length ∧ u.2.2.length = u.1 ∧ (rowG (nc - u.1) (data.drop u.2.1)).map (u.2.2 ++ ·) = rowG nc (data.drop k)) hc hb (0, k, []) ⟨Nat.zero_le _, by simp only; omega, rfl, by simp⟩ ?_ ?_
      · exact at_n 2 (by simp) rfl rfl (Nat.zero_le _) (args_lt_eq (by simp [go_sem, bys, byteRows_cut, q2]) rfl)
      rintro ⟨i, at_, l⟩ ⟨hi, hat, hll, hrow⟩
      simp only at hi hat hll hrow
      have hd2 : data.length - at_ ≤ maxB := by omega
      have htk := refTake_w (data.drop at_) (by simp; omega)
      have htl := takeF_le (data.drop at_)
      rw [List.length_drop] at htl
      refine wVW_code ?_
      simp [go_sem, en]
      refine wcond_i (fun q3 => ?_) (fun q3 => ?_)
      · have q3 : i < nc := by simpa using q3
        rw [show nc - i = (nc - i - 1) + 1 by omega, rowG] at hrow
        revert htk htl hrow
        generalize takeF (data.drop at_) = r
        obtain ⟨⟨vk, vn, vs⟩, rn, re⟩ := r
        intro hrow htk htl
        simp only at htl hrow
        simp [go_sem]
        refine wVC_pure htk Try.callB38 (args_eq (by simp [bys, byteRows_cut]) rfl) rfl ?_
        simp [go_sem, TakeR.V]
        refine wcond_i (fun q4 => ?_) (fun q4 => ?_)
        · have q4 : ¬ re = 0 := by simpa using q4
          rw [if_neg q4] at hrow
          simp [go_sem]
          rw [← hrow]
          exact row_ret0 rfl
        have q4 : re = 0 := by simpa using q4
        rw [if_pos q4] at hrow
        have hrn := htl q4
        have ea : IntKind.i64.wrap ((at_ : Int) + rn) = ((at_ + rn : Nat) : Int) := by rw [i64_id (by omega) (by unfold maxB at hd; omega)]; omega
        have ei : IntKind.u64.wrap ((i : Int) + 1) = ((i + 1 : Nat) : Int) := by rw [u64_id (by omega) (by unfold maxB at hnc; omega)]; omega
        have ei2 : IntKind.i64.wrap ((i : Int) + 1) = ((i + 1 : Nat) : Int) := i64_inc q3 (by unfold maxB at hnc; omega)
        have hub : (l.length + 1) * 32 ≤ 140737488355328 := by unfold maxB at hnc; omega
        simp [go_sem]
        refine wdraw [] 3 rfl (by kernel_rfl) (by kernel_rfl) ?_
        simp [go_sem]
        refine wneed_i ⟨hub, uni_one rfl⟩ ?_
        simp [go_sem, bys, byteRows_len]
        refine wneed_i ⟨by omega, byteRows_u _⟩ ?_
        simp [go_sem, ei2]
        have hcut : byteRows (data.drop (at_ + rn)) = List.drop rn (List.take (data.length - at_) (byteRows (data.drop at_))) := by
          rw [show data.length - at_ = (data.drop at_).length by simp, byteRows_cut, List.drop_drop]
        refine next_i (i + 1, at_ + rn, l ++ [⟨vk, vn, vs⟩]) ⟨by simp only; omega, ⟨q3, by simp only; omega, by simp [hll], ?_⟩, at_n 2 (by simp) rfl rfl (Nat.zero_le _) (args_lt_eq (by simp [go_sem, bys, ei2, hcut]) rfl)⟩
        rw [← hrow]
        simp only
        rw [show nc - (i + 1) = nc - i - 1 by omega, List.drop_drop]
        cases rowG (nc - i - 1) (data.drop (at_ + rn)) <;> simp
      · have q3 : i = nc := by have : ¬ i < nc := by simpa using q3
                               omega
        subst q3
        simp [rowG] at hrow
        simp [go_sem, bys, byteRows_len]
        refine wcond_i (fun q4 => ?_) (fun q4 => ?_)
        · have q4 : at_ < data.length := by simp at q4; omega
          rw [if_neg (by omega)] at hrow
          simp [go_sem]
          rw [← hrow]
          exact row_ret0 rfl
        have q4 : data.length ≤ at_ := by simp at q4; omega
        rw [if_pos q4] at hrow
        simp [go_sem]
        rw [← hrow]
        exact row_ret (by simp [rowR])
    · have q1 : ¬ e = 0 := by simpa using q1r
      simp [go_sem, q1r]
      exact bad _ (fun h => q1 h.1)
  · have hF : rowF ts table data = ([], 1) := by
      unfold rowF
      rw [dif_neg ht]
    rw [hF]
    refine VCalls.introV 0 Try.func19 Try.ntmps19 Try.results19 rfl rfl (Nat.le_of_ble_eq_true rfl) fun c hc hb => ?_
    refine wVW_code ?_
    simp [go_sem]
    refine wVC_pure (refIs_w regs (ts.map GTable.row) table) Try.callB28 (args_no rfl) rfl ?_
    have hn : (decide (0 ≤ table) && decide (table < ((ts.map GTable.row).length : Int))) = false := by simp; omega
    rw [hn]
    simp [go_sem]
    exact row_ret0 rfl
end Go.Proofs.Ytpemcnbblcobgaa
