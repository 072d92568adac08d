/-
  Contracts of functions that the claimed statement reaches, each proved over trees (the library Vx); used by the theorem at the end of the claim.
  Conditions: as each theorem states them.
-/
import Derived.Test.YthopohagdehncaaStA
namespace Go.Proofs.Ythopohagdehncaa
open Go Go.Vx
set_option maxRecDepth 100000

theorem local_b : Pure Try.prog 11 [.agg [.int .i64 0, .int .i64 0, .int .i64 0, .int .i64 0, .int .i64 5, .int .i64 0, .sl .full [], .sl .full [], .sl .full []], .agg [.int .i64 6, .int .i64 0], .sl .full []] (.tup [.sl .full [], .int .i64 23]) := by
  refine VCalls.intro 0 Try.func11 Try.ntmps11 Try.results11 rfl rfl (Nat.le_of_ble_eq_true rfl) fun c hc hb => wcode_of ?_
  simp [go_sem]
  exact wret_0 (argS_no rfl) ⟨rfl, rfl⟩

theorem safe_b : Pure Try.prog 13 [.agg [.int .i64 0, .int .i64 0, .int .i64 0, .int .i64 0, .int .i64 7, .int .i64 0, .sl .full [], .sl .full [], .sl .full []], .sl .full []] (.int .i64 7) := by
  refine VCalls.intro 0 Try.func13 Try.ntmps13 Try.results13 rfl rfl (Nat.le_of_ble_eq_true rfl) fun c hc hb => wcode_of ?_
  simp [go_sem]
  refine wVW_while (S := Unit) [5, 14, 15] (fun s => [.int .i64 7, .int .i64 0, .int .i64 0]) (fun _ => []) (fun s => 0) (fun s => True) hc hb () trivial ?_ ?_
  · exact at_0 rfl (args_eq (by simp [go_sem]) rfl)
  rintro _ _
  refine wVW_code ?_
  simp [go_sem]
  exact wret_0 (argS_no rfl) ⟨rfl, rfl⟩

theorem begun_w : Pure Try.prog 6 [] (.bool true) := by
  refine VCalls.intro 0 Try.func6 Try.ntmps6 Try.results6 rfl rfl (Nat.le_of_ble_eq_true rfl) fun c hc hb => wcode_of ?_
  simp [go_sem]
  have e1 : pickF 2 10 100 [95, 97] [0, 0] = (95, 0) := by decide
  have e2 : pickF 2 2 100 [95] [] = (0, 23) := by decide
  refine wVC_pure (pick_w 2 10 100 [95, 97] [0, 0] (by decide) (by decide) (by decide) (by decide) (by decide) (by decide) (by decide)) Try.callB7 ⟨argS_no rfl, argS_no rfl, argS_no rfl, argS_ro, argS_ro, trivial⟩ rfl ?_
  rw [e1]
  simp [go_sem]
  refine wVC_pure (pick_w 2 2 100 [95] [] (by decide) (by decide) (by decide) (by decide) (by decide) (by decide) (by decide)) Try.callB7 ⟨argS_no rfl, argS_no rfl, argS_no rfl, argS_ro, argS_ro, trivial⟩ rfl ?_
  rw [e2]
  simp [go_sem]
  refine wVC_pure local_b Try.callB11 (args_no rfl) rfl ?_
  simp [go_sem]
  refine wVC_pure safe_b Try.callB13 (args_no rfl) rfl ?_
  simp [go_sem]
  exact wret_0 (argS_no rfl) ⟨rfl, rfl⟩

theorem stalePicks_w (mode n now : Int) (safes lows : List Int) (hm : i64R mode) (hn : i64R n) (hnow : i64R now) (hsr : ∀ x ∈ safes, i64R x) (hlr : ∀ x ∈ lows, i64R x) :
    Pure Try.prog 3 [.int .i64 mode, .int .i64 n, .int .i64 now, ints safes, ints lows] (.bool true) := by
  refine VCalls.intro 0 Try.func3 Try.ntmps3 Try.results3 rfl rfl (Nat.le_of_ble_eq_true rfl) fun c hc hb => wcode_of ?_
  simp [go_sem]
  refine wVC_pure begun_w Try.callB6 (args_no rfl) rfl ?_
  simp [go_sem]
  cases h : decide ((20 : Int) < ↑safes.length)
  · cases h2 : decide ((20 : Int) < ↑lows.length)
    · simp [go_sem, h, h2]
      simp at h h2
      refine wVC_pure (pick_w mode n now safes lows hm hn hnow (by omega) (by omega) hsr hlr) Try.callB7 (args_no rfl) rfl ?_
      simp [go_sem]
      refine wVC_pure (refPick_w mode n now safes lows hm hn hnow (by omega) (by omega)) Try.callB8 (args_no rfl) rfl ?_
      simp [go_sem]
      exact wret_0 (argS_no rfl) ⟨rfl, rfl⟩
    · simp [go_sem, h, h2]
      exact wret_0 (argS_no rfl) ⟨rfl, rfl⟩
  · simp [go_sem, h]
    exact wret_0 (argS_no rfl) ⟨rfl, rfl⟩
end Go.Proofs.Ythopohagdehncaa
