/-
  Contracts of functions that the claimed statement reaches, each proved over trees (the library Vx); used by the theorem at the end of the claim.
  Conditions: as each theorem states them.
-/
import Derived.Test.YtpemcnbblcobgaaRwK
namespace Go.Proofs.Ytpemcnbblcobgaa
open Go Go.Vx
set_option maxRecDepth 100000

/-- Whether a schema has a table of that number. -/
theorem is_w (regs tabs : List (List V)) (t : Int) : Pure Try.prog 26 [.agg [.sl .ro regs, .sl .ro tabs], .int .i64 t] (.bool (decide (0 ≤ t) && decide (t < tabs.length))) := by
  refine VCalls.intro 0 Try.func26 Try.ntmps26 Try.results26 rfl rfl (Nat.le_of_ble_eq_true rfl) fun c hc hb => wcode_of ?_
  simp [go_sem]
  repeat' (first | (refine wgrd_i (fun q => ?_) (fun q => ?_) <;> simp [go_sem, q]) | (refine wcond_i (fun q => ?_) (fun q => ?_) <;> simp [go_sem, q]))
  all_goals exact wret_0 (argS_no rfl) ⟨by simp_all, rfl⟩
theorem refIs_w (regs tabs : List (List V)) (t : Int) : Pure Try.prog 28 [.agg [.sl .ro regs, .sl .ro tabs], .int .i64 t] (.bool (decide (0 ≤ t) && decide (t < tabs.length))) := by
  refine VCalls.intro 0 Try.func28 Try.ntmps28 Try.results28 rfl rfl (Nat.le_of_ble_eq_true rfl) fun c hc hb => wcode_of ?_
  simp [go_sem]
  repeat' (first | (refine wgrd_i (fun q => ?_) (fun q => ?_) <;> simp [go_sem, q]) | (refine wcond_i (fun q => ?_) (fun q => ?_) <;> simp [go_sem, q]))
  all_goals exact wret_0 (argS_no rfl) ⟨by simp_all, rfl⟩
end Go.Proofs.Ytpemcnbblcobgaa
