/-
  NetOrder returns true for every input, and each argument reads behind the call as it read before.
  Conditions: none.
-/
import Derived.Test.YtpghpndeihkcoaaNtB
import Derived.Test.YtpghpndeihkcoaaRows
namespace Go.Proofs.Ytpghpndeihkcoaa
open Go Go.Vx
set_option maxRecDepth 100000

theorem netOrder_own : ownKnob Try.prog.godebug = none := by kernel_rfl
theorem netOrder_laid : laidOutB Try.prog = true := by kernel_rfl

theorem netOrder_all (xs : List V) (h : ShpA Try.prog [65, 66] xs) : VCalls Try.prog 5 xs [] fun r _ => r = .bool true := by
  obtain ⟨_, _, rfl, h0, h⟩ := h.cons_inv
  obtain ⟨_, _, rfl, h1, h⟩ := h.cons_inv
  obtain rfl := h.nil_inv
  obtain ⟨x0_r, rfl, x0_l, x0_h⟩ := h0.sl_inv Try.underlying65
  obtain ⟨x0, rfl, x0_w⟩ := ShpR.map_inv (f := (fun n => [V.int .i64 n])) (ok := fun y => -9223372036854775808 ≤ y ∧ y ≤ 9223372036854775807) (fun r hr => by
    obtain ⟨z, rfl, wz⟩ := hr.int_inv Try.underlying3
    have wz := wf_i64 wz
    exact ⟨z, rfl, wz⟩) x0_h
  have w0 := And.intro (by simpa using x0_l : x0.length ≤ maxLen) x0_w
  obtain ⟨x1_r, rfl, x1_l, x1_h⟩ := h1.sl_inv Try.underlying66
  obtain ⟨x1, rfl, x1_w⟩ := ShpR.map_inv (f := (fun n => [V.int .u8 n])) (ok := fun y => 0 ≤ y ∧ y ≤ 255) (fun r hr => by
    obtain ⟨z, rfl, wz⟩ := hr.int_inv Try.underlying5
    have wz := wf_u8 wz
    exact ⟨z, rfl, wz⟩) x1_h
  have w1 := And.intro (by simpa using x1_l : x1.length ≤ maxLen) x1_w
  rw [packT_one (by rw [Try.underlying65]), packT_one (by rw [Try.underlying66])]
  exact (netOrder_w x0 x1 w1.2).mono fun r s h => h.1

theorem netOrder_lifted (os : Os) (started : os.Started) (H : Type) (enc : TypeId × Value → H) :
    ReturnsInHanded {} Try.checked os 5 .any (Rows.netOrderSpec.pre6 enc Try.prog Try.f5 Rows.netOrderRow.domain false) (Rows.netOrderSpec.post enc Try.prog Try.f5 false true false false) := by
  refine returnsInHanded_of_change (C := Try.checked) netOrder_own started (by kernel_rfl) Try.func5
    (ChangeSpec.witness6 (enc := enc) (C := Try.checked) false ⟨#[], #[.slice none 0 0, .slice none 0 0], []⟩ 8 (by kernel_rfl) (by kernel_rfl) (by kernel_rfl) (by kernel_rfl)) ?_
  intro W base args ds gs before hval hW _ _
  exact law_true (P := Try.prog) [3, 5, 65, 66] [65, 66] 4 Try.params5 (by kernel_rfl) Try.underlying4 (by kernel_rfl) (by kernel_rfl) (by kernel_rfl) netOrder_laid rfl
    (fun H ds h => by
      match ds, h with
      | [_, _], _ => rfl) netOrder_all H enc W base args ds gs before hval hW

theorem netOrder_proved : Rows.NetOrderSaid :=
  OpenClaim.holds_of_wide 5 Try.f5 rfl rfl rfl rfl rfl rfl rfl ⟨rfl, rfl, rfl, rfl, rfl⟩ rfl rfl rfl rfl rfl (by kernel_rfl) Try.func5 (by kernel_rfl)
    (of_decide_eq_true (by kernel_rfl)) (by unfold Func.isWrapper; first | (rw [if_pos (by decide +kernel)]; kernel_rfl) | (rw [if_neg (by decide +kernel)]; exact ⟨rfl, rfl⟩))
    (fun os started H enc _ => netOrder_lifted os started H enc)

#print axioms netOrder_proved
end Go.Proofs.Ytpghpndeihkcoaa
