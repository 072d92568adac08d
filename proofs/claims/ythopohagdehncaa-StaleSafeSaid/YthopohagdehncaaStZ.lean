/-
  Contracts of functions that the claimed statement reaches, each proved over trees (the library Vx); used by the theorem at the end of the claim.
  Conditions: as each theorem states them.
-/
import Derived.Test.YthopohagdehncaaStY
import Derived.Test.YthopohagdehncaaStB
namespace Go.Proofs.Ythopohagdehncaa
open Go Go.Vx
set_option maxRecDepth 100000

theorem fB_eq {cells : List GCell} (hs : Sorted cells) (at_ : GStamp) : (fun s => ((withinF cells s).find? (bars at_)).isSome) = fun s => (cells.find? fun x => inS x.key s && bars at_ x).isSome := by
  funext s
  rw [within_filter s cells hs, List.find?_filter]
  congr 2
  funext x
  simp

theorem fP_eq {cells : List GCell} (hs : Sorted cells) (at_ : GStamp) : (fun s => pairsF (withinF cells s) at_) = fun s => pairsIn cells s at_ := by
  funext s
  rw [within_filter s cells hs]
  rfl

theorem scanAll_len (Ps : GSpan → List GPair) : ∀ (l : List GSpan) (acc r : List GPair), acc.length ≤ 512 → scanAll Ps l acc = some r → r.length ≤ 512
  | [], acc, r, h, e => by simp [scanAll] at e; subst e; exact h
  | s :: l, acc, r, h, e => by
    unfold scanAll at e
    split at e
    · cases e
    · exact scanAll_len Ps l _ r (by simp; omega) e

theorem localF_len (B : GSpan → Bool) (Ps : GSpan → List GPair) (p : GPart) (at_ : GStamp) (spans : List GSpan) : (localF B Ps p at_ spans).1.length ≤ 512 := by
  unfold localF
  repeat' split
  all_goals simp
  rename_i h
  exact scanAll_len Ps _ _ _ (by simp) h

set_option maxHeartbeats 2000000 in
theorem staleLocal_w (p : GPart) (at_ : GStamp) (spans : List GSpan) (hp : p.ok) (hsl : spans.length ≤ maxLen) :
    Pure Try.prog 4 [.agg p.row, .agg at_.row, .sl .ro (spans.map GSpan.row)] (.bool true) := by
  have hml : maxLen = 9223372036854775807 := rfl
  refine VCalls.intro 0 Try.func4 Try.ntmps4 Try.results4 rfl rfl (Nat.le_of_ble_eq_true rfl) fun c hc hb => wcode_of ?_
  have yes : ∀ σ : St, wret (some (.bool true)) 0 (fun r s => r = .bool true ∧ s = []) σ := fun σ => wret_0 (argS_no rfl) ⟨rfl, rfl⟩
  simp [go_sem]
  refine wVC_pure begun_w Try.callB6 (args_no rfl) rfl ?_
  simp [go_sem]
  refine wVC_rel (light_w p hp) Try.callB9 (args_no rfl) (fun r h => by obtain ⟨b, rfl, _⟩ := h; rfl) ?_
  rintro r ⟨b, rfl, hbl⟩
  cases b with
  | false =>
    simp [go_sem]
    exact yes _
  | true =>
  have hl60 := hbl rfl
  simp [go_sem]
  refine wgrd_i (fun q => ?_) (fun q => ?_)
  case refine_2 =>
    simp [go_sem, q]
    exact yes _
  simp [go_sem, q]
  refine wVC_rel (may_w p hp) Try.callB10 (args_no rfl) (fun r h => by obtain ⟨b, rfl, _⟩ := h; rfl) ?_
  rintro r ⟨b, rfl, hbs⟩
  cases b with
  | false =>
    simp [go_sem]
    exact yes _
  | true =>
  have hS := hbs rfl
  have h1 := local_w p at_ spans hp (by omega) hS hsl
  have h2 := refLocal_w p at_ spans hp (by omega) hsl
  rw [fB_eq hS, fP_eq hS] at h1
  have hll := localF_len (fun s => (p.cells.find? fun x => inS x.key s && bars at_ x).isSome) (fun s => pairsIn p.cells s at_) p at_ spans
  generalize (localF (fun s => (p.cells.find? fun x => inS x.key s && bars at_ x).isSome) (fun s => pairsIn p.cells s at_) p at_ spans) = L at h1 h2 hll
  obtain ⟨l, err⟩ := L
  simp only at h1 h2 hll
  simp [go_sem]
  refine wVC_pure h1 Try.callB11 (args_no rfl) rfl ?_
  simp [go_sem]
  refine wVC_pure h2 Try.callB12 (args_no rfl) rfl ?_
  simp [go_sem]
  refine wdraw [(13, 0), (16, 0)] 2 rfl (by kernel_rfl) (by kernel_rfl) ?_
  simp [go_sem]
  refine wVD_pure (safe_w p spans hp hsl) Try.callB13 (fun _ => args_no rfl) rfl ?_
  simp [go_sem]
  refine wVD_pure (refSafe_w p spans hp hsl) Try.callB14 (fun _ => args_no rfl) rfl ?_
  simp [go_sem]
  refine wVW_while (S := Nat) [7, 9, 11] (fun i => [.sl .ro (l.map GPair.row), .sl .ro (l.map GPair.row), .int .i64 i]) (fun _ => []) (fun i => l.length - i) (fun i => i ≤ l.length) hc hb 0 (Nat.zero_le _) ?_ ?_
  · exact at_0 rfl (args_eq (by simp [go_sem]) rfl)
  rintro i hi
  refine wVW_code ?_
  simp [go_sem]
  refine wcond_i (fun h => ?_) (fun h => ?_)
  · have h : i < l.length := by simpa using h
    obtain ⟨x, hx⟩ : ∃ x, l[i] = x := ⟨_, rfl⟩
    simp [go_sem]
    refine wdraw [] 0 rfl (by kernel_rfl) (by kernel_rfl) ?_
    simp [go_sem, h, hx]
    exact next_i (i + 1) ⟨by omega, h, at_0 rfl (args_eq (by simp [go_sem]; rw [IntWalk.i64_in _ (by omega)]) rfl)⟩
  · simp [go_sem]
    exact yes _
end Go.Proofs.Ythopohagdehncaa
