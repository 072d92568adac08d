/-
  Contracts of functions that the claimed statement reaches, each proved over trees (the library Vx); used by the theorem at the end of the claim.
  Conditions: as each theorem states them.
-/
import Derived.Test.YthopohagdehncaaStS
namespace Go.Proofs.Ythopohagdehncaa
open Go Go.Vx
set_option maxRecDepth 100000

theorem argC_ro {ρ : Nat → Nat} {g : Tag} {rows : List (List V)} : argC ρ (.sl .ro rows) (.sl g rows) := .inr ⟨g, rows, rfl, rfl⟩
theorem argC_no {ρ : Nat → Nat} {v : V} (h : noC v = true) : argC ρ v v := .inl (renC_no h).symm
theorem argCs_no {ρ : Nat → Nat} : ∀ {l : List V}, l.all noC = true → All2 (argC ρ) l l
  | [], _ => trivial
  | v :: l, h => by
    simp only [List.all_cons, Bool.and_eq_true] at h
    exact ⟨argC_no h.1, argCs_no h.2⟩
theorem argS_agg {ρ : Nat → Nat} {cs' cs : List V} (h : All2 (argC ρ) cs' cs) : argS ρ (.agg cs') (.agg cs) := .inr (.inr (.inr (.inl ⟨cs', cs, rfl, rfl, h⟩)))
theorem argA_agg {ρ : Nat → Nat} {cs' cs : List V} (h : All2 (argC ρ) cs' cs) : argA ρ (.agg cs') (.agg cs) := .inr (.inr ⟨cs', cs, rfl, rfl, h⟩)

theorem locked_w (x : GLock) : Pure Try.prog 30 [.agg x.row] (.agg (GReply.row ⟨20, [], x.by_, x.home, x.at_, 0, false⟩)) := by
  refine VCalls.intro 0 Try.func30 Try.ntmps30 Try.results30 rfl rfl (Nat.le_of_ble_eq_true rfl) fun c hc hb => wcode_of ?_
  simp [go_sem]
  exact wret_0 (r := .agg (GReply.row ⟨20, [], x.by_, x.home, x.at_, 0, false⟩)) (argS_agg ⟨argC_no rfl, argC_ro, argCs_no rfl⟩) ⟨rfl, rfl⟩
end Go.Proofs.Ythopohagdehncaa
