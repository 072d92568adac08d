/-
  RowsKeys returns true for every input, and each argument reads behind the call as it read before.
  Conditions: none.
-/
import Derived.Test.YtkmechkafhblpaaKm
import Derived.Test.YtkmechkafhblpaaRows
namespace Go.Proofs.Ytkmechkafhblpaa
open Go Go.Vx
set_option maxRecDepth 100000

theorem rowsKeys_own : ownKnob Try.prog.godebug = none := by kernel_rfl
theorem rowsKeys_laid : laidOutB Try.prog = true := by kernel_rfl

theorem rowsKeys_all (xs : List V) (h : ShpA Try.prog [25, 4, 3, 26, 28] xs) : VCalls Try.prog 3 xs [] fun r _ => r = .bool true := by
  obtain ⟨_, _, rfl, h0, h⟩ := h.cons_inv
  obtain ⟨_, _, rfl, h1, h⟩ := h.cons_inv
  obtain ⟨_, _, rfl, h2, h⟩ := h.cons_inv
  obtain ⟨_, _, rfl, h3, h⟩ := h.cons_inv
  obtain ⟨_, _, rfl, h4, h⟩ := h.cons_inv
  obtain rfl := h.nil_inv
  obtain ⟨x0, rfl, w0⟩ := GSchema.of_shp h0
  obtain ⟨x1, rfl⟩ := h1.bool_inv Try.underlying4
  have w1 : True := trivial
  obtain ⟨x2, rfl, w2⟩ := h2.int_inv Try.underlying3
  have w2 := wf_i64 w2
  obtain ⟨x3_r, rfl, x3_l, x3_h⟩ := h3.sl_inv Try.underlying26
  obtain ⟨x3, rfl, x3_w⟩ := ShpR.map_inv (f := GValue.row) (ok := fun y => y.ok) (fun r hr => by
    exact GValue.of_shp hr) x3_h
  have w3 := And.intro (by simpa using x3_l : x3.length ≤ maxLen) x3_w
  obtain ⟨x4, rfl, w4⟩ := GValue.of_shp h4
  rw [packT_agg Try.underlying25, packT_one (by rw [Try.underlying4]), packT_one (by rw [Try.underlying3]), packT_one (by rw [Try.underlying26]), packT_agg Try.underlying28]
  exact (R.rowsKeys_w x0 x1 x2 x3 x4 w0 w3 w4).mono fun r s h => h.1

theorem rowsKeys_lifted (os : Os) (started : os.Started) (H : Type) (enc : TypeId × Value → H) :
    ReturnsInHanded {} Try.checked os 3 .any (Rows.rowsKeysSpec.pre6 enc Try.prog Try.f3 Rows.rowsKeysRow.domain false) (Rows.rowsKeysSpec.post enc Try.prog Try.f3 false true false false) := by
  refine returnsInHanded_of_change (C := Try.checked) rowsKeys_own started (by kernel_rfl) Try.func3
    (ChangeSpec.witness6 (enc := enc) (C := Try.checked) false ⟨#[], #[.agg #[.slice none 0 0, .slice none 0 0], .bool false, .int .i64 0, .slice none 0 0, .agg #[.int .i64 0, .int .i64 0, .string ⟨#[]⟩]], []⟩ 8 (by kernel_rfl) (by kernel_rfl) (by kernel_rfl) (by kernel_rfl)) ?_
  intro W base args ds gs before hval hW _ _
  exact law_true (P := Try.prog) [2, 3, 4, 9, 22, 23, 25, 26, 28, 40, 42, 44, 57] [25, 4, 3, 26, 28] 4 Try.params3 (by kernel_rfl) Try.underlying4 (by kernel_rfl) (by kernel_rfl) (by kernel_rfl) rowsKeys_laid rfl
    (fun H ds h => by
      match ds, h with
      | [_, _, _, _, _], _ => rfl) rowsKeys_all H enc W base args ds gs before hval hW ⟨fun _ h => (by cases h), fun _ h => (by cases h)⟩

theorem rowsKeys_proved : Rows.RowsKeysSaid :=
  OpenClaim.holds_of_wide 3 Try.f3 rfl rfl rfl rfl rfl rfl rfl ⟨rfl, rfl, rfl, rfl, rfl⟩ rfl rfl rfl rfl rfl (by kernel_rfl) Try.func3 (by kernel_rfl)
    (of_decide_eq_true (by kernel_rfl)) (by unfold Func.isWrapper; first | (rw [if_pos (by decide +kernel)]; kernel_rfl) | (rw [if_neg (by decide +kernel)]; exact ⟨rfl, rfl⟩))
    (fun os started H enc _ => rowsKeys_lifted os started H enc)

#print axioms rowsKeys_proved
end Go.Proofs.Ytkmechkafhblpaa
