/-
  Contracts of functions that the claimed statement reaches, each proved over trees (the library Vx); used by the theorem at the end of the claim.
  Conditions: as each theorem states them.
-/
import Derived.Test.YthopohagdehncaaStR
namespace Go.Proofs.Ythopohagdehncaa
open Go Go.Vx
set_option maxRecDepth 100000

theorem outs_uni (l : List GOutcome) : uni 7 (l.map GOutcome.row) := fun r hr => by
  obtain ⟨x, _, rfl⟩ := List.mem_map.1 hr
  rfl

set_option maxHeartbeats 1000000 in
theorem once_w (l : List GOutcome) (hl : l.length ≤ maxLen) : VCalls Try.prog 19 [.sl .ro (l.map GOutcome.row)] [] fun r s => IfTrue True r ∧ s = [] := by
  have hml : maxLen = 9223372036854775807 := rfl
  refine VCalls.intro 0 Try.func19 Try.ntmps19 Try.results19 rfl rfl (Nat.le_of_ble_eq_true rfl) fun c hc hb => wcode_of ?_
  simp [go_sem]
  refine wVW_while (S := Nat) [0, 3] (fun i => [.sl .ro (l.map GOutcome.row), .int .i64 i]) (fun _ => []) (fun i => l.length - i) (fun i => i ≤ l.length) hc hb 0 (Nat.zero_le _) ?_ ?_
  · exact at_0 rfl (args_eq (by simp [go_sem]) rfl)
  rintro i hi
  refine wVW_code ?_
  simp [go_sem]
  refine wcond_i (fun h => ?_) (fun h => ?_)
  · have h : i < l.length := by simpa using h
    have hg : ∃ x, l[i] = x := ⟨_, rfl⟩
    obtain ⟨x, hg⟩ := hg
    simp [go_sem]
    refine wdraw [(8, 0)] 0 rfl (by kernel_rfl) (by kernel_rfl) ?_
    simp [go_sem, h, hg]
    refine wneed_i ⟨by omega, outs_uni l⟩ ?_
    simp [go_sem, h, hg]
    have hc := findOut_w (l.take i) x.by_ (by simp; omega)
    obtain ⟨F, hF⟩ : ∃ F, ((l.take i).find? fun o => sameTry o.by_ x.by_) = F := ⟨_, rfl⟩
    rw [hF, List.map_take] at hc
    refine wVD_pure hc Try.callB25 (fun _ => args_no rfl) rfl ?_
    refine (Bool.eq_false_or_eq_true F.isSome).elim (fun h2 => ?_) (fun h2 => ?_)
    · simp [go_sem, h2]
      exact wret_0 (argS_no rfl) ⟨ift_no, rfl⟩
    · simp [go_sem, h2, inc64 h (by omega)]
      exact next_i (i + 1) ⟨by omega, h, at_0 rfl (args_eq (by simp [go_sem]) rfl)⟩
  · simp [go_sem]
    exact wret_0 (argS_no rfl) ⟨ift_yes trivial, rfl⟩
end Go.Proofs.Ythopohagdehncaa
