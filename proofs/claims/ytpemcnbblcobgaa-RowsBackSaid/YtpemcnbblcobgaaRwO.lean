/-
  Contracts of functions that the claimed statement reaches, each proved over trees (the library Vx); used by the theorem at the end of the claim.
  Conditions: as each theorem states them.
-/
import Derived.Test.YtpemcnbblcobgaaRwN
namespace Go.Proofs.Ytpemcnbblcobgaa
open Go Go.Vx
set_option maxRecDepth 100000

def rowsV (a : List (List GValue)) : V := .sl .ro (a.map fun l => [.sl .ro (l.map GValue.row)])

/-- Rows held against themselves. -/
theorem SameRows_w (a : List (List GValue)) (ha : a.length ≤ maxB) (hr : ∀ l ∈ a, l.length ≤ maxB) : Pure Try.prog 22 [rowsV a, rowsV a] (.bool true) := by
  refine VCalls.introV 0 Try.func22 Try.ntmps22 Try.results22 rfl rfl (Nat.le_of_ble_eq_true rfl) fun c hc hb => ?_
  refine wVW_code ?_
  simp [go_sem, rowsV]
  refine wVW_while (S := Nat) [0, 1, 5] (fun i => [rowsV a, rowsV a, .int .i64 i]) (fun _ => []) (fun i => a.length - i) (fun i => i ≤ a.length) hc hb 0 (Nat.zero_le _) ?_ ?_
  · exact at_0 rfl (args_eq (by simp [go_sem, rowsV]) rfl)
  intro i hi
  refine wVW_code ?_
  simp [go_sem, rowsV]
  refine wcond_i (fun q => ?_) (fun q => ?_)
  · have q : i < a.length := by simpa using q
    obtain ⟨l, hl⟩ : ∃ l, a[i] = l := ⟨_, rfl⟩
    have hll := hr l (hl ▸ List.getElem_mem q)
    simp [go_sem, q]
    refine wdraw [] 0 rfl (by kernel_rfl) (by kernel_rfl) ?_
    simp [go_sem, q, hl]
    refine wVW_while (S := Nat) [0, 1, 5, 6] (fun j => [rowsV a, rowsV a, .int .i64 i, .int .i64 j]) (fun _ => []) (fun j => l.length - j) (fun j => j ≤ l.length) hc hb 0 (Nat.zero_le _) ?_ ?_
    · exact at_0 rfl (args_eq (by simp [go_sem, rowsV]) rfl)
    intro j hj
    refine wVW_code ?_
    simp [go_sem, rowsV, q, hl]
    refine wcond_i (fun q2 => ?_) (fun q2 => ?_)
    · have q2 : j < l.length := by simpa using q2
      have ej := i64_inc q2 (by unfold maxB at hll; omega)
      simp [go_sem]
      refine wdraw [] 0 rfl (by kernel_rfl) (by kernel_rfl) ?_
      simp [go_sem, q, hl, q2, ej]
      exact next_i (j + 1) ⟨by omega, q2, at_0 rfl (args_eq (by simp [go_sem, rowsV, ej]) rfl)⟩
    · have ei := i64_inc q (by unfold maxB at ha; omega)
      simp [go_sem, ei]
      exact next_i (i + 1) ⟨by omega, q, at_0 rfl (args_eq (by simp [go_sem, rowsV, ei]) rfl)⟩
  · simp [go_sem]
    exact wret_0 (argS_no rfl) ⟨rfl, rfl⟩
end Go.Proofs.Ytpemcnbblcobgaa
