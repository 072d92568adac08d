/-
  StalePicks returns true for every input, and each argument reads behind the call as it read before.
  Conditions: none.
-/
import Derived.Test.YthopohagdehncaaStB
namespace Go.Proofs.Ythopohagdehncaa
open Go Go.Vx
set_option maxRecDepth 100000

theorem Try.own : ownKnob Try.prog.godebug = none := by kernel_rfl
theorem Try.laidOut : laidOutB Try.prog = true := by kernel_rfl

theorem ints_of {t : TypeId} (hu : Try.prog.underlying t = some (.int .i64)) {rows : List (List V)} (h : ShpR Try.prog t rows) : ∃ l : List Int, rows = l.map (fun n => [V.int .i64 n]) ∧ ∀ n ∈ l, i64R n :=
  ShpR.map_inv (f := fun n => [V.int .i64 n]) (ok := i64R) (fun r hr => by
    obtain ⟨n, rfl, hw⟩ := Shp.int_inv hu hr
    exact ⟨n, rfl, wf_i64 hw⟩) h

theorem stalePicks_all (xs : List V) (h : ShpA Try.prog [3, 2, 2, 22, 22] xs) : VCalls Try.prog 3 xs [] fun r _ => r = .bool true := by
  obtain ⟨_, _, rfl, h0, h⟩ := h.cons_inv
  obtain ⟨_, _, rfl, h1, h⟩ := h.cons_inv
  obtain ⟨_, _, rfl, h2, h⟩ := h.cons_inv
  obtain ⟨_, _, rfl, h3, h⟩ := h.cons_inv
  obtain ⟨_, _, rfl, h4, h⟩ := h.cons_inv
  obtain rfl := h.nil_inv
  obtain ⟨mode, rfl, w0⟩ := h0.int_inv Try.underlying3
  obtain ⟨n, rfl, w1⟩ := h1.int_inv Try.underlying2
  obtain ⟨now, rfl, w2⟩ := h2.int_inv Try.underlying2
  obtain ⟨r3, rfl, _, h3⟩ := h3.sl_inv Try.underlying22
  obtain ⟨r4, rfl, _, h4⟩ := h4.sl_inv Try.underlying22
  obtain ⟨safes, rfl, hs⟩ := ints_of Try.underlying2 h3
  obtain ⟨lows, rfl, hl⟩ := ints_of Try.underlying2 h4
  rw [packT_one (by rw [Try.underlying3]), packT_one (by rw [Try.underlying2]), packT_one (by rw [Try.underlying2]), packT_one (by rw [Try.underlying22]), packT_one (by rw [Try.underlying22])]
  exact (stalePicks_w mode n now safes lows (wf_i64 w0) (wf_i64 w1) (wf_i64 w2) hs hl).mono fun r s h => h.1

theorem stalePicks_lifted (os : Os) (started : os.Started) (H : Type) (enc : TypeId × Value → H) :
    ReturnsInHanded {} Try.checked os 3 .any (Rows.stalePicksSpec.pre6 enc Try.prog Try.f3 Rows.stalePicksRow.domain false) (Rows.stalePicksSpec.post enc Try.prog Try.f3 false true false false) := by
  refine returnsInHanded_of_change (C := Try.checked) Try.own started (by kernel_rfl) Try.func3
    (ChangeSpec.witness6 (enc := enc) (C := Try.checked) false ⟨#[], #[.int .i64 0, .int .i64 0, .int .i64 0, .slice none 0 0, .slice none 0 0], []⟩ 8 (by kernel_rfl) (by kernel_rfl) (by kernel_rfl) (by kernel_rfl)) ?_
  intro W base args ds gs before hval hW _ _
  exact law_true (P := Try.prog) [2, 3, 22] [3, 2, 2, 22, 22] 4 Try.params3 (by kernel_rfl) Try.underlying4 (by kernel_rfl) (by kernel_rfl) (by kernel_rfl) Try.laidOut rfl
    (fun H ds h => by
      match ds, h with
      | [_, _, _, _, _], _ => rfl) stalePicks_all H enc W base args ds gs before hval hW

theorem stalePicks_proved : Rows.StalePicksSaid :=
  OpenClaim.holds_of_wide 3 Try.f3 rfl rfl rfl rfl rfl rfl rfl ⟨rfl, rfl, rfl, rfl, rfl⟩ rfl rfl rfl rfl rfl (by kernel_rfl) Try.func3 (by kernel_rfl)
    (of_decide_eq_true (by kernel_rfl)) (by unfold Func.isWrapper; first | (rw [if_pos (by decide +kernel)]; kernel_rfl) | (rw [if_neg (by decide +kernel)]; exact ⟨rfl, rfl⟩))
    (fun os started H enc _ => stalePicks_lifted os started H enc)

#print axioms stalePicks_proved
end Go.Proofs.Ythopohagdehncaa
