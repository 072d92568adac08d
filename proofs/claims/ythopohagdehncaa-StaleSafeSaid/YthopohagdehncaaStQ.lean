/-
  Contracts of functions that the claimed statement reaches, each proved over trees (the library Vx); used by the theorem at the end of the claim.
  Conditions: as each theorem states them.
-/
import Derived.Test.YthopohagdehncaaStP
namespace Go.Proofs.Ythopohagdehncaa
open Go Go.Vx
set_option maxRecDepth 100000

/-- A bool; if it is true, p. -/
def IfTrue (p : Prop) (r : V) : Prop := ∃ b, r = .bool b ∧ (b = true → p)
theorem ift_no {p : Prop} : IfTrue p (.bool false) := ⟨false, rfl, fun h => by cases h⟩
theorem ift_yes {p : Prop} (h : p) : IfTrue p (.bool true) := ⟨true, rfl, fun _ => h⟩

set_option maxHeartbeats 1000000 in
theorem light8_w (cells : List GCell) (ho : ∀ x ∈ cells, x.ok) : VCalls Try.prog 17 [.sl .ro (cells.map GCell.row)] [] fun r s => IfTrue (cells.length ≤ 60) r ∧ s = [] := by
  have hml : maxLen = 9223372036854775807 := rfl
  refine VCalls.intro 0 Try.func17 Try.ntmps17 Try.results17 rfl rfl (Nat.le_of_ble_eq_true rfl) fun c hc hb => wcode_of ?_
  simp [go_sem]
  refine wcond_i (fun h => ?_) (fun h => ?_)
  · simp [go_sem]
    exact wret_0 (argS_no rfl) ⟨ift_no, rfl⟩
  have hl : cells.length ≤ 60 := by simp at h; omega
  have no : ∀ σ : St, wret (some (.bool false)) 0 (fun r s => IfTrue (cells.length ≤ 60) r ∧ s = []) σ := fun σ => wret_0 (argS_no rfl) ⟨ift_no, rfl⟩
  have yes : ∀ σ : St, wret (some (.bool true)) 0 (fun r s => IfTrue (cells.length ≤ 60) r ∧ s = []) σ := fun σ => wret_0 (argS_no rfl) ⟨ift_yes hl, rfl⟩
  simp [go_sem]
  refine wVW_while (S := Nat) [0, 3] (fun i => [.sl .ro (cells.map GCell.row), .int .i64 i]) (fun _ => []) (fun i => cells.length - i) (fun i => i ≤ cells.length) hc hb 0 (Nat.zero_le _) ?_ ?_
  · exact at_0 rfl (args_eq (by simp [go_sem]) rfl)
  rintro i hi
  refine wVW_code ?_
  simp [go_sem]
  refine wcond_i (fun h => ?_) (fun h => ?_)
  · have h : i < cells.length := by simpa using h
    have hg : ∃ x, cells[i] = x := ⟨_, rfl⟩
    obtain ⟨x, hg⟩ := hg
    have hxo : x.ok := ho x (hg ▸ List.getElem_mem h)
    have hv := hxo.versions.1
    simp [go_sem, h, hg]
    refine (Bool.eq_false_or_eq_true (decide ((30 : Int) < x.versions.length))).elim (fun h1 => ?_) (fun h1 => ?_)
    · simp [go_sem, h, hg, h1]
      exact no _
    refine (Bool.eq_false_or_eq_true (decide ((100 : Int) < x.key.length))).elim (fun h2 => ?_) (fun h2 => ?_)
    · simp [go_sem, h, hg, h1, h2]
      exact no _
    refine (Bool.eq_false_or_eq_true (decide ((300 : Int) < x.lock.data.length))).elim (fun h3 => ?_) (fun h3 => ?_)
    · simp [go_sem, h, hg, h1, h2, h3]
      exact no _
    simp [go_sem, h, hg, h1, h2, h3]
    refine wVW_while (S := Nat) [0, 3, 4] (fun k => [.sl .ro (cells.map GCell.row), .int .i64 i, .int .i64 k]) (fun _ => []) (fun k => x.versions.length - k) (fun k => k ≤ x.versions.length) hc hb 0 (Nat.zero_le _) ?_ ?_
    · exact at_0 rfl (args_eq (by simp [go_sem]) rfl)
    rintro k hk
    refine wVW_code ?_
    simp [go_sem, h, hg]
    refine wcond_i (fun h4 => ?_) (fun h4 => ?_)
    · have h4 : k < x.versions.length := by simpa using h4
      have hw : ∃ v, x.versions[k] = v := ⟨_, rfl⟩
      obtain ⟨v, hw⟩ := hw
      simp [go_sem, h, hg, h4, hw]
      refine wcond_i (fun h5 => ?_) (fun h5 => ?_)
      · simp [go_sem]
        exact no _
      · simp [go_sem, inc64 h4 (by omega)]
        exact next_i (k + 1) ⟨by omega, h4, at_0 rfl (args_eq (by simp [go_sem]) rfl)⟩
    · simp [go_sem, inc64 h (by omega)]
      exact next_i (i + 1) ⟨by omega, h, at_0 rfl (args_eq (by simp [go_sem]) rfl)⟩
  · simp [go_sem]
    exact yes _

theorem light_w (p : GPart) (hp : p.ok) : VCalls Try.prog 9 [.agg p.row] [] fun r s => IfTrue (p.cells.length ≤ 60) r ∧ s = [] := by
  refine VCalls.intro 0 Try.func9 Try.ntmps9 Try.results9 rfl rfl (Nat.le_of_ble_eq_true rfl) fun c hc hb => wcode_of ?_
  simp [go_sem]
  refine wVC_rel (light8_w p.cells hp.cells.2) Try.callB17 (args_no rfl) (fun r h => by obtain ⟨b, rfl, _⟩ := h; rfl) ?_
  rintro r ⟨b, rfl, hbl⟩
  have no : ∀ σ : St, wret (some (.bool false)) 0 (fun r s => IfTrue (p.cells.length ≤ 60) r ∧ s = []) σ := fun σ => wret_0 (argS_no rfl) ⟨ift_no, rfl⟩
  cases b with
  | false =>
    simp [go_sem]
    exact no _
  | true =>
    refine (Bool.eq_false_or_eq_true (decide ((p.records.length : Int) < 100))).elim (fun h1 => ?_) (fun h1 => ?_)
    · refine (Bool.eq_false_or_eq_true (decide ((p.done.length : Int) < 100))).elim (fun h2 => ?_) (fun h2 => ?_)
      · simp [go_sem, h1, h2]
        exact wret_0 (argS_no rfl) ⟨ift_yes (hbl rfl), rfl⟩
      · simp [go_sem, h1, h2]
        exact no _
    · simp [go_sem, h1]
      exact no _
end Go.Proofs.Ythopohagdehncaa
