/-
  RowsBack returns true for every input, and each argument reads behind the call as it read before.
  Conditions: none.
-/
import Derived.Test.YtpemcnbblcobgaaRwZ
import Derived.Test.YtpemcnbblcobgaaRows
namespace Go.Proofs.Ytpemcnbblcobgaa
open Go Go.Vx
set_option maxRecDepth 100000

theorem rowsBack_own : ownKnob Try.prog.godebug = none := by kernel_rfl
theorem rowsBack_laid : laidOutB Try.prog = true := by kernel_rfl

theorem rowsBack_all (xs : List V) (h : ShpA Try.prog [3, 26, 26] xs) : VCalls Try.prog 5 xs [] fun r _ => r = .bool true := by
  obtain ⟨_, _, rfl, h0, h⟩ := h.cons_inv
  obtain ⟨_, _, rfl, h1, h⟩ := h.cons_inv
  obtain ⟨_, _, rfl, h2, h⟩ := h.cons_inv
  obtain rfl := h.nil_inv
  obtain ⟨x0, rfl, w0⟩ := h0.int_inv Try.underlying3
  have w0 := wf_i64 w0
  obtain ⟨x1_r, rfl, x1_l, x1_h⟩ := h1.sl_inv Try.underlying26
  obtain ⟨x1, rfl, x1_w⟩ := ShpR.map_inv (f := GValue.row) (ok := fun y => y.ok) (fun r hr => by
    exact GValue.of_shp hr) x1_h
  have w1 := And.intro (by simpa using x1_l : x1.length ≤ maxLen) x1_w
  obtain ⟨x2_r, rfl, x2_l, x2_h⟩ := h2.sl_inv Try.underlying26
  obtain ⟨x2, rfl, x2_w⟩ := ShpR.map_inv (f := GValue.row) (ok := fun y => y.ok) (fun r hr => by
    exact GValue.of_shp hr) x2_h
  have w2 := And.intro (by simpa using x2_l : x2.length ≤ maxLen) x2_w
  rw [packT_one (by rw [Try.underlying3]), packT_one (by rw [Try.underlying26]), packT_one (by rw [Try.underlying26])]
  exact (rowsBack_w x0 x1 x2 w0 w1 w2).mono fun r s h => h.1

theorem rowsBack_lifted (os : Os) (started : os.Started) (H : Type) (enc : TypeId × Value → H) :
    ReturnsInHanded {} Try.checked os 5 .any (Rows.rowsBackSpec.pre6 enc Try.prog Try.f5 Rows.rowsBackRow.domain false) (Rows.rowsBackSpec.post enc Try.prog Try.f5 false true false false) := by
  refine returnsInHanded_of_change (C := Try.checked) rowsBack_own started (by kernel_rfl) Try.func5
    (ChangeSpec.witness6 (enc := enc) (C := Try.checked) false ⟨#[], #[.int .i64 0, .slice none 0 0, .slice none 0 0], []⟩ 8 (by kernel_rfl) (by kernel_rfl) (by kernel_rfl) (by kernel_rfl)) ?_
  intro W base args ds gs before hval hW _ _
  exact law_true (P := Try.prog) [2, 3, 9, 26, 28] [3, 26, 26] 4 Try.params5 (by kernel_rfl) Try.underlying4 (by kernel_rfl) (by kernel_rfl) (by kernel_rfl) rowsBack_laid rfl
    (fun H ds h => by
      match ds, h with
      | [_, _, _], _ => rfl) rowsBack_all H enc W base args ds gs before hval hW

theorem rowsBack_proved : Rows.RowsBackSaid :=
  OpenClaim.holds_of_wide 5 Try.f5 rfl rfl rfl rfl rfl rfl rfl ⟨rfl, rfl, rfl, rfl, rfl⟩ rfl rfl rfl rfl rfl (by kernel_rfl) Try.func5 (by kernel_rfl)
    (of_decide_eq_true (by kernel_rfl)) (by unfold Func.isWrapper; first | (rw [if_pos (by decide +kernel)]; kernel_rfl) | (rw [if_neg (by decide +kernel)]; exact ⟨rfl, rfl⟩))
    (fun os started H enc _ => rowsBack_lifted os started H enc)

#print axioms rowsBack_proved
end Go.Proofs.Ytpemcnbblcobgaa
