/-
  Contracts of functions that the claimed statement reaches, each proved over trees (the library Vx); used by the theorem at the end of the claim.
  Conditions: as each theorem states them.
-/
import Derived.Test.YthopohagdehncaaStF
import Derived.Lib.Bytealg
import Derived.Shelf.Small.Strs
namespace Go.Proofs.Ythopohagdehncaa
open Go Go.Vx
set_option maxRecDepth 100000

theorem pure_of_calls {P : Program} {f : FuncId} {args : List V} {v : V} (h : ∀ (w : World) (L : Nat → Nat) (vals : List Value), All2 (RdS w L [] []) args vals → Calls P f vals.toArray w fun e w' => w' = w ∧ ∃ x, e = .returned x ∧ RdS w L [] [] v x) : Pure P f args v := by
  intro w L β vals hm ha
  have hβ : β = [] := List.length_eq_zero_iff.1 hm.len
  subst hβ
  refine (h w L vals ha).mono ?_
  rintro e w' ⟨rfl, x, rfl, hr⟩
  exact ⟨x, v, L, [], [], rfl, ⟨rfl, rfl⟩, Nat.le_refl _, hm, hr⟩

theorem cmpStr_calls (a b : ByteArray) (w : World) : Calls Try.prog 41 #[.string a, .string b] w fun e w' => e = .returned (.int .i64 (Lib.compareBytes a.data.toList b.data.toList)) ∧ w' = w := by
  go_enter Try.func41, Try.ntmps41
  go_wp2
  rw [run_callFunc_extern Try.func42 (by kernel_rfl) (by kernel_rfl) (by kernel_rfl) (e := Extern.BytealgCompare.compare) (by kernel_rfl), Lib.run_compareString]
  go_wp2
  go_ret
  exact ⟨rfl, rfl⟩

theorem cmpStr_w (a b : List UInt8) : Pure Try.prog 41 [.str a, .str b] (.int .i64 (Lib.compareBytes a b)) := by
  refine pure_of_calls fun w L vals ha => ?_
  match vals, ha with
  | [x, y], ⟨h1, h2, _⟩ =>
    have e1 := rdS_str h1
    have e2 := rdS_str h2
    subst e1; subst e2
    refine (cmpStr_calls ⟨a.toArray⟩ ⟨b.toArray⟩ w).mono ?_
    rintro e w' ⟨rfl, rfl⟩
    exact ⟨rfl, _, rfl, RdP.int _ _⟩

theorem compare_w (a b : List UInt8) : Pure Try.prog 39 [.str a, .str b] (.int .i64 (Lib.compareBytes a b)) := by
  refine VCalls.intro 0 Try.func39 Try.ntmps39 Try.results39 rfl rfl (Nat.le_of_ble_eq_true rfl) fun c hc hb => wcode_of ?_
  simp [go_sem]
  refine wVC_pure (cmpStr_w a b) Try.callB41 (args_no rfl) rfl ?_
  simp [go_sem]
  exact wret_0 (argS_no rfl) ⟨rfl, rfl⟩

theorem find1_w (x : GCell) (key : List UInt8) : Pure Try.prog 38 [.agg x.row, .str key] (.int .i64 (Lib.compareBytes x.key key)) := by
  refine VCalls.intro 0 Try.func38 Try.ntmps38 Try.results38 rfl rfl (Nat.le_of_ble_eq_true rfl) fun c hc hb => wcode_of ?_
  simp [go_sem]
  refine wVC_pure (compare_w x.key key) Try.callB39 (args_no rfl) rfl ?_
  simp [go_sem]
  exact wret_0 (argS_no rfl) ⟨rfl, rfl⟩

theorem cmp_less : ∀ (a b : List UInt8), (Lib.compareBytes a b < 0 ↔ Op.bytesLess a b = true) ∧ (Lib.compareBytes a b = 0 ↔ a = b)
  | [], [] => by simp [Lib.compareBytes, Op.bytesLess]
  | [], _ :: _ => by simp [Lib.compareBytes, Op.bytesLess]
  | _ :: _, [] => by simp [Lib.compareBytes, Op.bytesLess]
  | a :: l, b :: m => by
    have ih := cmp_less l m
    unfold Lib.compareBytes Op.bytesLess
    by_cases h : a < b
    · have hne : a ≠ b := fun q => by subst q; exact absurd h (by simp)
      simp [h, hne]
    · by_cases h2 : b < a
      · have hne : a ≠ b := fun q => by subst q; exact absurd h2 (by simp)
        simp [h, h2, hne]
      · have he : a = b := UInt8.le_antisymm (UInt8.not_lt.1 h2) (UInt8.not_lt.1 h)
        subst he
        simp [ih]
end Go.Proofs.Ythopohagdehncaa
