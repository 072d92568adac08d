/-
  Contracts of functions that the claimed statement reaches, each proved over trees (the library Vx); used by the theorem at the end of the claim.
  Conditions: as each theorem states them.
-/
import Derived.Test.YthopohagdehncaaStW
namespace Go.Proofs.Ythopohagdehncaa
open Go Go.Vx
set_option maxRecDepth 100000

theorem wrap_nat {j : Nat} (h : j ≤ 9223372036854775807) : IntKind.i64.wrap (j : Int) = j := IntWalk.i64_in _ (by omega)

theorem sorted_next {cells : List GCell} {i : Nat} {x : GCell} (h : i < cells.length) (hg : cells[i] = x) (hs : Sorted (cells.take i)) (hk : ∀ j, (hj : j < cells.length) → i = j + 1 → Op.bytesLess cells[j].key x.key = true) : Sorted (cells.take (i + 1)) := by
  rw [List.take_succ_eq_append_getElem h, hg]
  unfold Sorted at *
  rw [List.pairwise_append]
  refine ⟨hs, List.pairwise_singleton _ _, fun a ha b hb => ?_⟩
  simp at hb
  subst hb
  obtain ⟨k, hk1, rfl⟩ := List.mem_iff_getElem.1 ha
  simp at hk1
  cases i with
  | zero => omega
  | succ j =>
    have hj := hk j (by omega) rfl
    have e1 : (cells.take (j + 1))[k]'(by simp; omega) = cells[k]'(by omega) := by simp
    rw [e1]
    rcases Nat.lt_or_ge k j with hlt | hge
    · have := List.pairwise_iff_getElem.1 hs k j (by simp; omega) (by simp; omega) hlt
      simp at this
      exact bl_trans _ _ _ this hj
    · have : k = j := by omega
      subst this; exact hj

set_option maxHeartbeats 8000000 in
theorem may8_w (cells : List GCell) (hl : cells.length ≤ maxLen) (ho : ∀ x ∈ cells, x.ok) : VCalls Try.prog 18 [.sl .ro (cells.map GCell.row)] [] fun r s => IfTrue (Sorted cells) r ∧ s = [] := by
  have hml : maxLen = 9223372036854775807 := rfl
  refine VCalls.introV 0 Try.func18 Try.ntmps18 Try.results18 rfl rfl (Nat.le_of_ble_eq_true rfl) fun c hc hb => ?_
  have no : ∀ σ : St, wret (some (.bool false)) 0 (fun r s => IfTrue (Sorted cells) r ∧ s = []) σ := fun σ => wret_0 (argS_no rfl) ⟨ift_no, rfl⟩
  refine wVW_code ?_
  simp [go_sem]
  refine wVW_while (S := Nat) [0, 3] (fun i => [.sl .ro (cells.map GCell.row), .int .i64 i]) (fun _ => []) (fun i => cells.length - i) (fun i => i ≤ cells.length ∧ Sorted (cells.take i)) hc hb 0 ⟨Nat.zero_le _, List.Pairwise.nil⟩ ?_ ?_
  · exact at_0 rfl (args_eq (by simp [go_sem]) rfl)
  rintro i ⟨hi, hsort⟩
  refine wVW_seq (wVW_code ?_)
  simp [go_sem]
  refine wcond_i (fun h => ?_) (fun h => ?_)
  · have h : i < cells.length := by simpa using h
    obtain ⟨x, hg⟩ : ∃ x, cells[i] = x := ⟨_, rfl⟩
    have hxo : x.ok := ho x (hg ▸ List.getElem_mem h)
    simp [go_sem]
    refine wVW_seq (wVW_block ?_)
    refine wVW_seq (wVW_code ?_)
    simp [go_sem, h, hg]
    refine wVW_cut (S := Unit) [0, 3, 4] (fun _ => [.sl .ro (cells.map GCell.row), .int .i64 i, .ptr 0 0]) (fun _ => [.box x.row]) (fun _ => Sorted (cells.take (i + 1))) hc hb ?_ ?_
    · refine wVW_code ?_
      simp [go_sem]
      refine wdraw [] 1 rfl (by kernel_rfl) (by kernel_rfl) ?_
      have fin : ∀ (K : Bool), (0 < i → ∃ (hj : i - 1 < cells.length), K = Op.bytesLess cells[i-1].key x.key) → (0 < i → K = true) → Sorted (cells.take (i + 1)) := fun K h1 h2 =>
        sorted_next h hg hsort fun j hj e => by
          obtain ⟨_, e2⟩ := h1 (by omega)
          have := h2 (by omega)
          rw [e2] at this
          simpa [e] using this
      have tri : (0 = i ∧ Sorted (cells.take (i + 1))) ∨ (∃ j, i = j + 1 ∧ (∃ (hj : j < cells.length), Op.bytesLess cells[j].key x.key = true) ∧ Sorted (cells.take (i + 1))) ∨ (∃ j, i = j + 1 ∧ ∃ (hj : j < cells.length), Op.bytesLess cells[j].key x.key = false) := by
        cases i with
        | zero => exact .inl ⟨rfl, sorted_next h hg hsort fun j hj e => by omega⟩
        | succ j =>
          have hj : j < cells.length := by omega
          cases hK : Op.bytesLess cells[j].key x.key with
          | true => exact .inr (.inl ⟨j, rfl, ⟨hj, hK⟩, sorted_next h hg hsort fun j' hj' e => by cases e; exact hK⟩)
          | false => exact .inr (.inr ⟨j, rfl, hj, hK⟩)
      refine tri.elim (fun hS => ?_) fun hh => hh.elim (fun hS => ?_) (fun hS => ?_)
      · obtain ⟨rfl, hS⟩ := hS
        simp [go_sem, hg]
        repeat' (first
          | (refine wgrd_i (fun q => ?_) (fun q => ?_) <;> simp [go_sem, q])
          | (refine wcond_i (fun q => ?_) (fun q => ?_) <;> simp [go_sem, q])
          | exact no _
          | exact next_i () ⟨hS, at_n 1 (by simp_all [go_sem]) rfl rfl (Nat.zero_le _) (args_lt_eq (by simp [go_sem]) rfl)⟩)
      · obtain ⟨j, rfl, ⟨hj, hK⟩, hS⟩ := hS
        have hw := wrap_nat (j := j) (by omega)
        simp [go_sem, hg, hw, hj, hK]
        repeat' (first
          | (refine wgrd_i (fun q => ?_) (fun q => ?_) <;> simp [go_sem, q])
          | (refine wcond_i (fun q => ?_) (fun q => ?_) <;> simp [go_sem, q])
          | exact no _
          | exact next_i () ⟨hS, at_n 1 (by simp_all [go_sem]) rfl rfl (Nat.zero_le _) (args_lt_eq (by simp [go_sem]) rfl)⟩)
      · obtain ⟨j, rfl, hj, hK⟩ := hS
        have hw := wrap_nat (j := j) (by omega)
        simp [go_sem, hg, hw, hj, hK]
        repeat' (first
          | (refine wgrd_i (fun q => ?_) (fun q => ?_) <;> simp [go_sem, q])
          | exact no _)
    · rintro _ hs1
      refine wVW_code ?_
      simp [go_sem]
      have hvl := hxo.versions.1
      refine wVW_while (S := Nat) [0, 3, 4, 5] (fun k => [.sl .ro (cells.map GCell.row), .int .i64 i, .ptr 0 0, .int .i64 k]) (fun _ => [.box x.row]) (fun k => x.versions.length - k) (fun k => k ≤ x.versions.length) hc hb 0 (Nat.zero_le _) ?_ ?_
      · exact at_n 1 rfl rfl rfl (Nat.zero_le _) (args_lt_eq (by simp [go_sem]) rfl)
      rintro k hk
      refine wVW_code ?_
      simp [go_sem]
      refine wcond_i (fun h4 => ?_) (fun h4 => ?_)
      · have h4 : k < x.versions.length := by simpa using h4
        obtain ⟨v, hv⟩ : ∃ v, x.versions[k] = v := ⟨_, rfl⟩
        simp [go_sem, h4, hv]
        refine wdraw [(20, 0)] 2 rfl (by kernel_rfl) (by kernel_rfl) ?_
        have go : ∀ j, j < x.versions.length → ∃ u, x.versions[j]? = some u := fun j hj => ⟨_, List.getElem?_eq_getElem hj⟩
        cases k with
        | zero =>
          simp [go_sem, hv]
          repeat' (first
            | (refine wgrd_i (fun q => ?_) (fun q => ?_) <;> simp [go_sem, q])
            | (refine wcond_i (fun q => ?_) (fun q => ?_) <;> simp [go_sem, q])
            | exact no _
            | exact next_i 1 ⟨by omega, h4, at_n 1 rfl rfl rfl (Nat.zero_le _) (args_lt_eq (by simp [go_sem]; rw [IntWalk.i64_in _ (by omega)]) rfl)⟩)
        | succ j =>
          have hj : j < x.versions.length := by omega
          have hw := wrap_nat (j := j) (by omega)
          obtain ⟨u, hu⟩ : ∃ u, x.versions[j] = u := ⟨_, rfl⟩
          simp [go_sem, hv, hw, hu, hj]
          repeat' (first
            | (refine wgrd_i (fun q => ?_) (fun q => ?_) <;> simp [go_sem, q, hw, hu, hj])
            | (refine wcond_i (fun q => ?_) (fun q => ?_) <;> simp [go_sem, q])
            | (refine wVD_pure (refLess_w u.at_ v.at_) Try.callB24 (fun _ => args_no rfl) rfl ?_; simp [go_sem, inc64 h4 (by omega)])
            | exact no _
            | exact next_i (j + 1 + 1) ⟨by omega, h4, at_n 1 rfl rfl rfl (Nat.zero_le _) (args_lt_eq (by simp [go_sem]; rw [IntWalk.i64_in _ (by omega)]) rfl)⟩)
      · simp [go_sem]
        refine wVW_code ?_
        simp [go_sem, inc64 h (by omega)]
        exact next_i (i + 1) ⟨by omega, ⟨h, hs1⟩, at_0 rfl (args_eq (by simp [go_sem]) rfl)⟩
  · have h : cells.length ≤ i := by simpa using h
    rw [List.take_of_length_le h] at hsort
    simp [go_sem]
    exact wret_0 (argS_no rfl) ⟨ift_yes hsort, rfl⟩
end Go.Proofs.Ythopohagdehncaa
