/-
  StaleSafe returns true for every input, and each argument reads behind the call as it read before.
  Conditions: none.
-/
import Derived.Test.YthopohagdehncaaStSb
import Derived.Test.YthopohagdehncaaRows
namespace Go.Proofs.Ythopohagdehncaa
open Go Go.Vx
set_option maxRecDepth 100000

theorem staleSafe_own : ownKnob Try.prog.godebug = none := by kernel_rfl
theorem staleSafe_laid : laidOutB Try.prog = true := by kernel_rfl

theorem staleSafe_all (xs : List V) (h : ShpA Try.prog [33, 34, 2] xs) : VCalls Try.prog 5 xs [] fun r _ => r = .bool true := by
  obtain ⟨_, _, rfl, h0, h⟩ := h.cons_inv
  obtain ⟨_, _, rfl, h1, h⟩ := h.cons_inv
  obtain ⟨_, _, rfl, h2, h⟩ := h.cons_inv
  obtain rfl := h.nil_inv
  obtain ⟨x0, rfl, w0⟩ := GPart.of_shp h0
  obtain ⟨x1_r, rfl, x1_l, x1_h⟩ := h1.sl_inv Try.underlying34
  obtain ⟨x1, rfl, x1_w⟩ := ShpR.map_inv (f := GSpan.row) (ok := fun y => y.ok) (fun r hr => by
    exact GSpan.of_shp hr) x1_h
  have w1 := And.intro (by simpa using x1_l : x1.length ≤ maxLen) x1_w
  obtain ⟨x2, rfl, w2⟩ := h2.int_inv Try.underlying2
  have w2 := wf_i64 w2
  rw [packT_agg Try.underlying33, packT_one (by rw [Try.underlying34]), packT_one (by rw [Try.underlying2])]
  exact (staleSafe_w x0 x1 x2 w0 w1.1).mono fun r s h => h.1

theorem staleSafe_lifted (os : Os) (started : os.Started) (H : Type) (enc : TypeId × Value → H) :
    ReturnsInHanded {} Try.checked os 5 .any (Rows.staleSafeSpec.pre6 enc Try.prog Try.f5 Rows.staleSafeRow.domain false) (Rows.staleSafeSpec.post enc Try.prog Try.f5 false true false false) := by
  refine returnsInHanded_of_change (C := Try.checked) staleSafe_own started (by kernel_rfl) Try.func5
    (ChangeSpec.witness6 (enc := enc) (C := Try.checked) false ⟨#[], #[.agg #[.int .i64 0, .int .i64 0, .int .i64 0, .int .i64 0, .int .i64 0, .int .i64 0, .slice none 0 0, .slice none 0 0, .slice none 0 0], .slice none 0 0, .int .i64 0], []⟩ 8 (by kernel_rfl) (by kernel_rfl) (by kernel_rfl) (by kernel_rfl)) ?_
  intro W base args ds gs before hval hW _ _
  exact law_true (P := Try.prog) [2, 3, 4, 9, 29, 30, 31, 33, 34, 44, 46, 47, 49, 55, 65, 68] [33, 34, 2] 4 Try.params5 (by kernel_rfl) Try.underlying4 (by kernel_rfl) (by kernel_rfl) (by kernel_rfl) staleSafe_laid rfl
    (fun H ds h => by
      match ds, h with
      | [_, _, _], _ => rfl) staleSafe_all H enc W base args ds gs before hval hW

theorem staleSafe_proved : Rows.StaleSafeSaid :=
  OpenClaim.holds_of_wide 5 Try.f5 rfl rfl rfl rfl rfl rfl rfl ⟨rfl, rfl, rfl, rfl, rfl⟩ rfl rfl rfl rfl rfl (by kernel_rfl) Try.func5 (by kernel_rfl)
    (of_decide_eq_true (by kernel_rfl)) (by unfold Func.isWrapper; first | (rw [if_pos (by decide +kernel)]; kernel_rfl) | (rw [if_neg (by decide +kernel)]; exact ⟨rfl, rfl⟩))
    (fun os started H enc _ => staleSafe_lifted os started H enc)

#print axioms staleSafe_proved
end Go.Proofs.Ythopohagdehncaa
