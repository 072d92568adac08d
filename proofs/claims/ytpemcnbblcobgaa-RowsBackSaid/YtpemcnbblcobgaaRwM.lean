/-
  Contracts of functions that the claimed statement reaches, each proved over trees (the library Vx); used by the theorem at the end of the claim.
  Conditions: as each theorem states them.
-/
import Derived.Test.YtpemcnbblcobgaaRwL
namespace Go.Proofs.Ytpemcnbblcobgaa
open Go Go.Vx
set_option maxRecDepth 100000

/-- LightRow: where it tells yes, the row is not too great. -/
theorem LightRow_w (row : List GValue) (hok : ∀ v ∈ row, v.ok) (hml : row.length ≤ maxLen) : VCalls Try.prog 8 [.sl .ro (row.map GValue.row)] [] fun r s => IfTrue (LightR row) r ∧ s = [] := by
  refine VCalls.introV 0 Try.func8 Try.ntmps8 Try.results8 rfl rfl (Nat.le_of_ble_eq_true rfl) fun c hc hb => ?_
  refine wVW_code ?_
  simp [go_sem]
  refine wcond_i (fun h => ?_) (fun h => ?_)
  · simp [go_sem]
    exact wret_0 (argS_no rfl) ⟨ift_no, rfl⟩
  have h : row.length ≤ 20 := by have := of_decide_eq_false h; omega
  simp [go_sem]
  refine wVW_while (S := Nat) [0, 3] (fun i => [.sl .ro (row.map GValue.row), .int .i64 i]) (fun _ => []) (fun i => row.length - i) (fun i => i ≤ row.length ∧ ∀ v ∈ row.take i, v.s.length ≤ 500) hc hb 0 ⟨Nat.zero_le _, by simp⟩ ?_ ?_
  · exact at_0 rfl (args_eq (by simp [go_sem]) rfl)
  rintro i ⟨hi, ha⟩
  refine wVW_code ?_
  simp [go_sem]
  refine wcond_i (fun q => ?_) (fun q => ?_)
  · have q : i < row.length := by simpa using q
    obtain ⟨v, hv⟩ : ∃ v, row[i] = v := ⟨_, rfl⟩
    have ei := i64_inc q (by omega)
    simp [go_sem, q, hv]
    refine wcond_i (fun w => ?_) (fun w => ?_)
    · simp [go_sem]
      exact wret_0 (argS_no rfl) ⟨ift_no, rfl⟩
    · have w : v.s.length ≤ 500 := by have := of_decide_eq_false w; omega
      have ha2 : ∀ x ∈ row.take (i + 1), x.s.length ≤ 500 := fun x hx => by
        rw [List.take_succ_eq_append_getElem q, List.mem_append] at hx
        rcases hx with hx | hx
        · exact ha x hx
        · simp at hx; rw [hx, hv]; exact w
      simp [go_sem, ei]
      exact next_i (i + 1) ⟨by omega, ⟨q, ha2⟩, at_0 rfl (args_eq (by simp [go_sem, ei]) rfl)⟩
  · have q : i = row.length := by have : ¬ i < row.length := by simpa using q
                                  omega
    have ha3 : ∀ v ∈ row, v.s.length ≤ 500 := fun v hv => ha v (by rw [q, List.take_length]; exact hv)
    simp [go_sem]
    exact wret_0 (argS_no rfl) ⟨ift_yes ⟨h, ha3, hok⟩, rfl⟩
end Go.Proofs.Ytpemcnbblcobgaa
