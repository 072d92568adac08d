/-
  Contracts of functions that the claimed statement reaches, each proved over trees (the library Vx); used by the theorem at the end of the claim.
  Conditions: as each theorem states them.
-/
import Derived.Test.YthopohagdehncaaStSa
namespace Go.Proofs.Ythopohagdehncaa
open Go Go.Vx
set_option maxRecDepth 100000

set_option maxHeartbeats 4000000 in
theorem staleSafe_w (p : GPart) (spans : List GSpan) (t : Int) (hp : p.ok) (hsl : spans.length ≤ maxLen) :
    Pure Try.prog 5 [.agg p.row, .sl .ro (spans.map GSpan.row), .int .i64 t] (.bool true) := by
  have hml : maxLen = 9223372036854775807 := rfl
  refine VCalls.intro 0 Try.func5 Try.ntmps5 Try.results5 rfl rfl (Nat.le_of_ble_eq_true rfl) fun c hc hb => wcode_of ?_
  have yes : ∀ σ : St, wret (some (.bool true)) 0 (fun r s => r = .bool true ∧ s = []) σ := fun σ => wret_0 (argS_no rfl) ⟨rfl, rfl⟩
  simp [go_sem]
  refine wVC_pure begun_w Try.callB6 (args_no rfl) rfl ?_
  simp [go_sem]
  refine wVC_rel (light_w p hp) Try.callB9 (args_no rfl) (fun r h => by obtain ⟨b, rfl, _⟩ := h; rfl) ?_
  rintro r ⟨b, rfl, hbl⟩
  cases b with
  | false =>
    simp [go_sem]
    exact yes _
  | true =>
  have hl60 := hbl rfl
  simp [go_sem]
  refine wgrd_i (fun q => ?_) (fun q => ?_)
  case refine_2 =>
    simp [go_sem, q]
    exact yes _
  simp [go_sem, q]
  refine wVC_rel (may_w p hp) Try.callB10 (args_no rfl) (fun r h => by obtain ⟨b, rfl, _⟩ := h; rfl) ?_
  rintro r ⟨b, rfl, hbs⟩
  cases b with
  | false =>
    simp [go_sem]
    exact yes _
  | true =>
  have hS := hbs rfl
  simp [go_sem]
  refine wVW_while (S := Nat) [1, 2, 3, 7] (fun i => [.sl .ro (spans.map GSpan.row), .int .i64 t, .ptr 0 0, .int .i64 i]) (fun _ => [.box p.row]) (fun i => p.cells.length - i) (fun i => i ≤ p.cells.length ∧ ∀ c ∈ p.cells.take i, c.lock.at_.tie ≤ 4611686018427387904 ∧ -4611686018427387904 ≤ c.lock.at_.wall) hc hb 0 ⟨Nat.zero_le _, by simp⟩ ?_ ?_
  · exact at_n 1 rfl rfl rfl (Nat.zero_le _) (args_lt_eq (by simp [go_sem]) rfl)
  rintro i ⟨hi, hw⟩
  refine wVW_code ?_
  simp [go_sem]
  refine wcond_i (fun h => ?_) (fun h => ?_)
  · have h : i < p.cells.length := by simpa using h
    obtain ⟨x, hx⟩ : ∃ x, p.cells[i] = x := ⟨_, rfl⟩
    simp [go_sem, h, hx]
    repeat' (first
      | (refine wgrd_i (fun q => ?_) (fun q => ?_) <;> simp [go_sem, q, h, hx])
      | (refine wcond_i (fun q => ?_) (fun q => ?_) <;> simp [go_sem, q])
      | exact yes _)
    rename_i q2
    simp at q q2
    refine next_i (i + 1) ⟨by omega, ⟨h, ?_⟩, at_n 1 rfl rfl rfl (Nat.zero_le _) (args_lt_eq (by simp [go_sem]; rw [IntWalk.i64_in _ (by omega)]) rfl)⟩
    intro c hc
    rw [List.take_succ_eq_append_getElem h] at hc
    rcases List.mem_append.1 hc with hc | hc
    · exact hw c hc
    · rw [hx] at hc
      simp at hc
      subst hc
      exact ⟨by omega, by omega⟩
  · have h : p.cells.length ≤ i := by simpa using h
    rw [List.take_of_length_le h] at hw
    have hcodes := codes_ok p spans hw t (fun w s => (p.cells.find? fun x => inS x.key s && bars (at62 w) x).isSome) (fun w s => pairsIn p.cells s (at62 w)) (fun _ => rfl)
    have h1 := local_w p (at62 (safeF p spans)) spans hp (by omega) hS hsl
    have h2 := local_w p (at62 t) spans hp (by omega) hS hsl
    rw [fB_eq hS, fP_eq hS] at h1 h2
    generalize (localF (fun s => (p.cells.find? fun x => inS x.key s && bars (at62 (safeF p spans)) x).isSome) (fun s => pairsIn p.cells s (at62 (safeF p spans))) p (at62 (safeF p spans)) spans) = L1 at h1 hcodes
    generalize (localF (fun s => (p.cells.find? fun x => inS x.key s && bars (at62 t) x).isSome) (fun s => pairsIn p.cells s (at62 t)) p (at62 t) spans) = L2 at h2 hcodes
    obtain ⟨l1, e1⟩ := L1
    obtain ⟨l2, e2⟩ := L2
    simp only at h1 h2 hcodes
    simp [go_sem]
    refine wVC_pure (safe_w p spans hp hsl) Try.callB13 (args_no rfl) rfl ?_
    generalize safeF p spans = safe at h1 hcodes
    simp [go_sem]
    refine wVC_pure h1 Try.callB11 (args_no rfl) rfl ?_
    simp [go_sem]
    refine wVC_pure h2 Try.callB11 (args_no rfl) rfl ?_
    simp [go_sem]
    repeat' (first
      | (refine wgrd_i (fun q => ?_) (fun q => ?_) <;> simp [go_sem, q])
      | (refine wcond_i (fun q => ?_) (fun q => ?_) <;> simp [go_sem, q])
      | exact yes _)
    all_goals
      clear h1 h2
      refine wret_0 (argS_no rfl) ⟨?_, rfl⟩
      congr 1
      first | (simp_all [codesOk]; done) | (simp_all [codesOk]; rw [if_neg (by omega)] at hcodes; exact hcodes)
end Go.Proofs.Ythopohagdehncaa
