/-
  Contracts of functions that the claimed statement reaches, each proved over trees (the library Vx); used by the theorem at the end of the claim.
  Conditions: as each theorem states them.
-/
import Derived.Test.YthopohagdehncaaStX
namespace Go.Proofs.Ythopohagdehncaa
open Go Go.Vx
set_option maxRecDepth 100000

set_option maxHeartbeats 2000000 in
theorem may_w (p : GPart) (hp : p.ok) : VCalls Try.prog 10 [.agg p.row] [] fun r s => IfTrue (Sorted p.cells) r ∧ s = [] := by
  refine VCalls.intro 0 Try.func10 Try.ntmps10 Try.results10 rfl rfl (Nat.le_of_ble_eq_true rfl) fun c hc hb => wcode_of ?_
  have no : ∀ σ : St, wret (some (.bool false)) 0 (fun r s => IfTrue (Sorted p.cells) r ∧ s = []) σ := fun σ => wret_0 (argS_no rfl) ⟨ift_no, rfl⟩
  simp [go_sem]
  refine wVC_rel (may8_w p.cells hp.cells.1 hp.cells.2) Try.callB18 (args_no rfl) (fun r h => by obtain ⟨b, rfl, _⟩ := h; rfl) ?_
  rintro r ⟨b, rfl, hbl⟩
  cases b with
  | false =>
    simp [go_sem]
    exact no _
  | true =>
    have hS := hbl rfl
    simp [go_sem]
    repeat' (first
      | (refine wgrd_i (fun q => ?_) (fun q => ?_) <;> simp [go_sem, q])
      | (refine wcond_i (fun q => ?_) (fun q => ?_) <;> simp [go_sem, q])
      | exact no _
      | exact wret_0 (argS_no rfl) ⟨⟨_, rfl, fun _ => hS⟩, rfl⟩
      | (refine wVC_rel (once_w p.records hp.records.1) Try.callB19 (args_no rfl) (fun r h => by obtain ⟨b, rfl, _⟩ := h; rfl) ?_; rintro r ⟨b, rfl, -⟩; simp [go_sem])
      | (refine wVC_rel (once_w p.done hp.done.1) Try.callB19 (args_no rfl) (fun r h => by obtain ⟨b, rfl, _⟩ := h; rfl) ?_; rintro r ⟨b, rfl, -⟩; simp [go_sem]))
end Go.Proofs.Ythopohagdehncaa
