/-
  StaleLocal returns true for every input, and each argument reads behind the call as it read before.
  Conditions: none.
-/
import Derived.Test.YthopohagdehncaaStZ
import Derived.Test.YthopohagdehncaaRows
namespace Go.Proofs.Ythopohagdehncaa
open Go Go.Vx
set_option maxRecDepth 100000

theorem staleLocal_own : ownKnob Try.prog.godebug = none := by kernel_rfl
theorem staleLocal_laid : laidOutB Try.prog = true := by kernel_rfl

theorem staleLocal_all (xs : List V) (h : ShpA Try.prog [33, 29, 34] xs) : VCalls Try.prog 4 xs [] fun r _ => r = .bool true := by
  obtain ⟨_, _, rfl, h0, h⟩ := h.cons_inv
  obtain ⟨_, _, rfl, h1, h⟩ := h.cons_inv
  obtain ⟨_, _, rfl, h2, h⟩ := h.cons_inv
  obtain rfl := h.nil_inv
  obtain ⟨x0, rfl, w0⟩ := GPart.of_shp h0
  obtain ⟨x1, rfl, w1⟩ := GStamp.of_shp h1
  obtain ⟨x2_r, rfl, x2_l, x2_h⟩ := h2.sl_inv Try.underlying34
  obtain ⟨x2, rfl, x2_w⟩ := ShpR.map_inv (f := GSpan.row) (ok := fun y => y.ok) (fun r hr => by
    exact GSpan.of_shp hr) x2_h
  have w2 := And.intro (by simpa using x2_l : x2.length ≤ maxLen) x2_w
  rw [packT_agg Try.underlying33, packT_agg Try.underlying29, packT_one (by rw [Try.underlying34])]
  exact (staleLocal_w x0 x1 x2 w0 w2.1).mono fun r s h => h.1

theorem staleLocal_lifted (os : Os) (started : os.Started) (H : Type) (enc : TypeId × Value → H) :
    ReturnsInHanded {} Try.checked os 4 .any (Rows.staleLocalSpec.pre6 enc Try.prog Try.f4 Rows.staleLocalRow.domain false) (Rows.staleLocalSpec.post enc Try.prog Try.f4 false true false false) := by
  refine returnsInHanded_of_change (C := Try.checked) staleLocal_own started (by kernel_rfl) Try.func4
    (ChangeSpec.witness6 (enc := enc) (C := Try.checked) false ⟨#[], #[.agg #[.int .i64 0, .int .i64 0, .int .i64 0, .int .i64 0, .int .i64 0, .int .i64 0, .slice none 0 0, .slice none 0 0, .slice none 0 0], .agg #[.int .i64 0, .int .i64 0], .slice none 0 0], []⟩ 8 (by kernel_rfl) (by kernel_rfl) (by kernel_rfl) (by kernel_rfl)) ?_
  intro W base args ds gs before hval hW _ _
  exact law_true (P := Try.prog) [2, 3, 4, 9, 29, 30, 31, 33, 34, 44, 46, 47, 49, 55, 65, 68] [33, 29, 34] 4 Try.params4 (by kernel_rfl) Try.underlying4 (by kernel_rfl) (by kernel_rfl) (by kernel_rfl) staleLocal_laid rfl
    (fun H ds h => by
      match ds, h with
      | [_, _, _], _ => rfl) staleLocal_all H enc W base args ds gs before hval hW

theorem staleLocal_proved : Rows.StaleLocalSaid :=
  OpenClaim.holds_of_wide 4 Try.f4 rfl rfl rfl rfl rfl rfl rfl ⟨rfl, rfl, rfl, rfl, rfl⟩ rfl rfl rfl rfl rfl (by kernel_rfl) Try.func4 (by kernel_rfl)
    (of_decide_eq_true (by kernel_rfl)) (by unfold Func.isWrapper; first | (rw [if_pos (by decide +kernel)]; kernel_rfl) | (rw [if_neg (by decide +kernel)]; exact ⟨rfl, rfl⟩))
    (fun os started H enc _ => staleLocal_lifted os started H enc)

#print axioms staleLocal_proved
end Go.Proofs.Ythopohagdehncaa
