/-
  NetFull returns true for every input, and each argument reads behind the call as it read before.
  Conditions: none.
-/
import Derived.Test.YtpghpndeihkcoaaNtC
import Derived.Test.YtpghpndeihkcoaaRows
namespace Go.Proofs.Ytpghpndeihkcoaa
open Go Go.Vx
set_option maxRecDepth 100000

theorem netFull_own : ownKnob Try.prog.godebug = none := by kernel_rfl
theorem netFull_laid : laidOutB Try.prog = true := by kernel_rfl

theorem netFull_all (xs : List V) (h : ShpA Try.prog [3, 3] xs) : VCalls Try.prog 4 xs [] fun r _ => r = .bool true := by
  obtain ⟨_, _, rfl, h0, h⟩ := h.cons_inv
  obtain ⟨_, _, rfl, h1, h⟩ := h.cons_inv
  obtain rfl := h.nil_inv
  obtain ⟨x0, rfl, w0⟩ := h0.int_inv Try.underlying3
  have w0 := wf_i64 w0
  obtain ⟨x1, rfl, w1⟩ := h1.int_inv Try.underlying3
  have w1 := wf_i64 w1
  rw [packT_one (by rw [Try.underlying3]), packT_one (by rw [Try.underlying3])]
  exact (netFull_w x0 x1).mono fun r s h => h.1

theorem netFull_lifted (os : Os) (started : os.Started) (H : Type) (enc : TypeId × Value → H) :
    ReturnsInHanded {} Try.checked os 4 .any (Rows.netFullSpec.pre6 enc Try.prog Try.f4 Rows.netFullRow.domain false) (Rows.netFullSpec.post enc Try.prog Try.f4 false true false false) := by
  refine returnsInHanded_of_change (C := Try.checked) netFull_own started (by kernel_rfl) Try.func4
    (ChangeSpec.witness6 (enc := enc) (C := Try.checked) false ⟨#[], #[.int .i64 0, .int .i64 0], []⟩ 8 (by kernel_rfl) (by kernel_rfl) (by kernel_rfl) (by kernel_rfl)) ?_
  intro W base args ds gs before hval hW _ _
  exact law_true (P := Try.prog) [3] [3, 3] 4 Try.params4 (by kernel_rfl) Try.underlying4 (by kernel_rfl) (by kernel_rfl) (by kernel_rfl) netFull_laid rfl
    (fun H ds h => by
      match ds, h with
      | [_, _], _ => rfl) netFull_all H enc W base args ds gs before hval hW

theorem netFull_proved : Rows.NetFullSaid :=
  OpenClaim.holds_of_wide 4 Try.f4 rfl rfl rfl rfl rfl rfl rfl ⟨rfl, rfl, rfl, rfl, rfl⟩ rfl rfl rfl rfl rfl (by kernel_rfl) Try.func4 (by kernel_rfl)
    (of_decide_eq_true (by kernel_rfl)) (by unfold Func.isWrapper; first | (rw [if_pos (by decide +kernel)]; kernel_rfl) | (rw [if_neg (by decide +kernel)]; exact ⟨rfl, rfl⟩))
    (fun os started H enc _ => netFull_lifted os started H enc)

#print axioms netFull_proved
end Go.Proofs.Ytpghpndeihkcoaa
