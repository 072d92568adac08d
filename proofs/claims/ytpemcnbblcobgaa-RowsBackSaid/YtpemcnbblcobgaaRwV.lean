/-
  Contracts of functions that the claimed statement reaches, each proved over trees (the library Vx); used by the theorem at the end of the claim.
  Conditions: as each theorem states them.
-/
import Derived.Test.YtpemcnbblcobgaaRwU
namespace Go.Proofs.Ytpemcnbblcobgaa
open Go Go.Vx
set_option maxRecDepth 100000

/-- Whether values may stand in columns. -/
def mayRowF : List GCol → List GValue → Int
  | c :: cs, v :: vs => if mayF v = false then 9 else if v.kind = 0 ∧ c.null = false then 16 else if v.kind ≠ 0 ∧ v.kind ≠ c.kind then 15 else mayRowF cs vs
  | _, _ => 0
def mayT (cols : List GCol) (row : List GValue) : Int := if row.length ≠ cols.length then 9 else mayRowF cols row

theorem MayRow_w (t : GTable) (row : List GValue) (hr : row.length ≤ maxLen) : Pure Try.prog 15 [.agg t.row, .sl .ro (row.map GValue.row)] (.int .i64 (mayT t.cols row)) := by
  obtain ⟨name, cols, key, place, region, zone⟩ := t
  refine VCalls.introV 0 Try.func15 Try.ntmps15 Try.results15 rfl rfl (Nat.le_of_ble_eq_true rfl) fun c hc hb => ?_
  refine wVW_code ?_
  have ret : ∀ (r : Int) (σ : St), r = mayT cols row → wret (some (.int .i64 r)) 0 (fun r s => r = .int .i64 (mayT cols row) ∧ s = []) σ := fun r σ h => by subst h; exact wret_0 (argS_no rfl) ⟨rfl, rfl⟩
  simp [go_sem]
  refine wcond_i (fun h => ?_) (fun h => ?_)
  · have h : row.length ≠ cols.length := by simp at h; omega
    simp [go_sem]
    exact ret _ _ (by rw [mayT, if_pos h])
  have h : row.length = cols.length := by simp at h; omega
  rw [mayT, if_neg (by omega)] at ret ⊢
  simp [go_sem]
  refine wVW_while (S := Nat) [2, 13, 14, 15] (fun i => [.ptr 0 0, .sl .ro (row.map GValue.row), .int .i64 row.length, .int .i64 i]) (fun _ => [.box (GTable.row ⟨name, cols, key, place, region, zone⟩)]) (fun i => row.length - i) (fun i => i ≤ row.length ∧ mayRowF (cols.drop i) (row.drop i) = mayRowF cols row) hc hb 0 ⟨Nat.zero_le _, rfl⟩ ?_ ?_
  · exact at_n 1 (by simp [go_sem]) rfl rfl (Nat.zero_le _) (args_lt_eq (by simp [go_sem]) rfl)
  rintro i ⟨hi, hinv⟩
  refine wVW_code ?_
  simp [go_sem]
  refine wcond_i (fun q => ?_) (fun q => ?_)
  · have q : i < row.length := by simpa using q
    have q2 : i < cols.length := by omega
    have ei := i64_inc q (by unfold maxLen at hr; omega)
    rw [List.drop_eq_getElem_cons q, List.drop_eq_getElem_cons q2] at hinv
    obtain ⟨⟨k, n, s⟩, hv⟩ : ∃ v, row[i] = v := ⟨_, rfl⟩
    obtain ⟨⟨cn, ck, cb⟩, hcol⟩ : ∃ v, cols[i] = v := ⟨_, rfl⟩
    rw [hv, hcol, mayRowF] at hinv
    simp only at hinv
    simp [go_sem, q, hv]
    refine wVC_pure (May_w ⟨k, n, s⟩) Try.callB33 (args_no rfl) rfl ?_
    simp [go_sem]
    refine wcond_i (fun h1 => ?_) (fun h1 => ?_)
    · have h1 : mayF ⟨k, n, s⟩ = false := by simpa using h1
      rw [if_pos h1] at hinv
      simp [go_sem]
      exact ret _ _ hinv
    have h1 : ¬ mayF ⟨k, n, s⟩ = false := by simpa using h1
    rw [if_neg h1] at hinv
    simp [go_sem]
    refine wgrd_i (fun h2 => ?_) (fun h2 => ?_)
    · have h2' : k = 0 := by simpa using h2
      simp [go_sem, h2, q2, hcol]
      refine wcond_i (fun h3 => ?_) (fun h3 => ?_)
      · have h3 : cb = false := by simpa using h3
        rw [if_pos ⟨h2', h3⟩] at hinv
        simp [go_sem]
        exact ret _ _ hinv
      have h3 : ¬ cb = false := by simpa using h3
      rw [if_neg (fun w => h3 w.2), if_neg (fun w => w.1 h2')] at hinv
      simp [go_sem]
      refine wdraw [] 2 rfl (by kernel_rfl) (by kernel_rfl) ?_
      simp [go_sem, h2', q2, hcol, ei]
      exact next_i (i + 1) ⟨by omega, ⟨q, hinv⟩, at_n 1 (by simp [go_sem]) rfl rfl (Nat.zero_le _) (args_lt_eq (by simp [go_sem, ei]) rfl)⟩
    · have h2' : ¬ k = 0 := by simpa using h2
      rw [if_neg (fun w => h2' w.1)] at hinv
      simp [go_sem, h2]
      refine wdraw [] 2 rfl (by kernel_rfl) (by kernel_rfl) ?_
      have h2n : (k != 0) = true := by simpa using h2'
      simp [go_sem, h2n, q2, hcol]
      refine wcond_i (fun h4 => ?_) (fun h4 => ?_)
      · have h4 : ¬ k = ck := by simpa using h4
        rw [if_pos ⟨h2', h4⟩] at hinv
        simp [go_sem]
        exact ret _ _ hinv
      have h4 : k = ck := by simpa using h4
      rw [if_neg (fun w => w.2 h4)] at hinv
      simp [go_sem, ei]
      exact next_i (i + 1) ⟨by omega, ⟨q, hinv⟩, at_n 1 (by simp [go_sem]) rfl rfl (Nat.zero_le _) (args_lt_eq (by simp [go_sem, ei]) rfl)⟩
  · have q : i = row.length := by have : ¬ i < row.length := by simpa using q
                                  omega
    subst q
    rw [List.drop_length, h, List.drop_length] at hinv
    simp [go_sem]
    exact ret _ _ hinv
end Go.Proofs.Ytpemcnbblcobgaa
