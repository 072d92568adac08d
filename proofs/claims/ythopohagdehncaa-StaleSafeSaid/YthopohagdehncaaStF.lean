/-
  Contracts of functions that the claimed statement reaches, each proved over trees (the library Vx); used by the theorem at the end of the claim.
  Conditions: as each theorem states them.
-/
import Derived.Test.YthopohagdehncaaStE
namespace Go.Proofs.Ythopohagdehncaa
open Go Go.Vx
set_option maxRecDepth 100000

def lessF (a b : GStamp) : Bool := decide (a.wall < b.wall) || (a.wall == b.wall && decide (a.tie < b.tie))

theorem refLess_w (a b : GStamp) : Pure Try.prog 24 [.agg a.row, .agg b.row] (.bool (lessF a b)) := by
  refine VCalls.intro 0 Try.func24 Try.ntmps24 Try.results24 rfl rfl (Nat.le_of_ble_eq_true rfl) fun c hc hb => wcode_of ?_
  by_cases h : a.wall < b.wall
  · simp [go_sem, h]
    exact wret_0 (argS_no rfl) ⟨by simp [lessF, h], rfl⟩
  · by_cases h2 : a.wall = b.wall
    · simp [go_sem, h, h2]
      exact wret_0 (argS_no rfl) ⟨by simp [lessF, h2], rfl⟩
    · have hb2 : (a.wall == b.wall) = false := beq_eq_false_iff_ne.2 h2
      simp [go_sem, h, hb2]
      exact wret_0 (argS_no rfl) ⟨by simp [lessF, h, h2], rfl⟩

theorem isNaN_w (a : Int) : Pure Try.prog 40 [.int .i64 a] (.bool false) := by
  refine VCalls.intro 0 Try.func40 Try.ntmps40 Try.results40 rfl rfl (Nat.le_of_ble_eq_true rfl) fun c hc hb => wcode_of ?_
  simp [go_sem]
  exact wret_0 (argS_no rfl) ⟨rfl, rfl⟩

def cmpF (a b : Int) : Int := if a < b then -1 else if a > b then 1 else 0

theorem cmp_w (a b : Int) : Pure Try.prog 34 [.int .i64 a, .int .i64 b] (.int .i64 (cmpF a b)) := by
  refine VCalls.intro 0 Try.func34 Try.ntmps34 Try.results34 rfl rfl (Nat.le_of_ble_eq_true rfl) fun c hc hb => wcode_of ?_
  simp [go_sem]
  refine wVC_pure (isNaN_w a) Try.callB40 (args_no rfl) rfl ?_
  simp [go_sem]
  refine wVC_pure (isNaN_w b) Try.callB40 (args_no rfl) rfl ?_
  by_cases h : a < b
  · simp [go_sem, h]
    exact wret_0 (argS_no rfl) ⟨by simp [cmpF, h], rfl⟩
  · by_cases h2 : b < a
    · simp [go_sem, h, h2]
      exact wret_0 (argS_no rfl) ⟨by simp [cmpF, h, h2], rfl⟩
    · simp [go_sem, h, h2]
      exact wret_0 (argS_no rfl) ⟨by simp [cmpF, h, h2], rfl⟩

def orF : List Int → Int
  | [] => 0
  | x :: l => if x = 0 then orF l else x

theorem or_w (l : List Int) (hl : l.length ≤ maxLen) : Pure Try.prog 33 [ints l] (.int .i64 (orF l)) := by
  have hml : maxLen = 9223372036854775807 := rfl
  refine VCalls.intro 0 Try.func33 Try.ntmps33 Try.results33 rfl rfl (Nat.le_of_ble_eq_true rfl) fun c hc hb => wcode_of ?_
  simp [go_sem]
  refine wVW_while (S := Nat) [3, 6, 7, 8] (fun i => [.int .i64 0, ints l, .int .i64 l.length, .int .i64 i]) (fun _ => []) (fun i => l.length - i) (fun i => i ≤ l.length ∧ orF l = orF (l.drop i)) hc hb 0 ⟨Nat.zero_le _, by simp⟩ ?_ ?_
  · exact at_0 rfl (args_eq (by simp [go_sem]) rfl)
  rintro i ⟨hi, ho⟩
  refine wVW_code ?_
  simp [go_sem]
  refine wcond_i (fun h => ?_) (fun h => ?_)
  · have h : i < l.length := by simpa using h
    rw [List.drop_eq_getElem_cons h] at ho
    by_cases h0 : l[i] = 0
    · simp [go_sem, h, h0, inc64 h (by omega)]
      exact next_i (i + 1) ⟨by omega, ⟨h, by rw [ho, orF, if_pos h0]⟩, at_0 rfl (args_eq (by simp [go_sem]) rfl)⟩
    · have hb0 : (l[i] != 0) = true := by simpa using h0
      simp [go_sem, h, hb0]
      exact wret_0 (argS_no rfl) ⟨by rw [ho, orF, if_neg h0], rfl⟩
  · have h : l.length ≤ i := by simpa using h
    rw [List.drop_eq_nil_of_le h] at ho
    simp [go_sem]
    exact wret_0 (argS_no rfl) ⟨by rw [ho]; rfl, rfl⟩

theorem less_cmp (a b : GStamp) : decide (orF [cmpF a.wall b.wall, cmpF a.tie b.tie] < 0) = lessF a b := by
  unfold orF orF orF lessF cmpF
  by_cases h : a.wall < b.wall
  · simp [h]
  · by_cases h2 : a.wall = b.wall
    · by_cases h3 : a.tie < b.tie
      · simp [h2, h3]
      · by_cases h4 : a.tie = b.tie
        · simp [h2, h4]
        · have : b.tie < a.tie := by omega
          simp [h2, h3, this]
    · have : b.wall < a.wall := by omega
      simp [h, h2, this]

theorem sless_w (a b : GStamp) : Pure Try.prog 27 [.agg a.row, .agg b.row] (.bool (lessF a b)) := by
  refine VCalls.intro 0 Try.func27 Try.ntmps27 Try.results27 rfl rfl (Nat.le_of_ble_eq_true rfl) fun c hc hb => wcode_of ?_
  simp [go_sem]
  refine wdraw [(4, 0), (9, 0), (11, 0)] 2 rfl (by kernel_rfl) (by kernel_rfl) ?_
  simp [go_sem]
  refine wVD_pure (cmp_w a.wall b.wall) Try.callB34 (fun _ => args_no rfl) rfl ?_
  simp [go_sem]
  refine wVD_pure (cmp_w a.tie b.tie) Try.callB34 (fun _ => args_no rfl) rfl ?_
  simp [go_sem]
  refine wVD_pure (or_w [cmpF a.wall b.wall, cmpF a.tie b.tie] (show 2 ≤ 9223372036854775807 by omega)) Try.callB33 (fun _ => ⟨argS_ro, trivial⟩) rfl ?_
  simp [go_sem]
  exact wret_0 (argS_no rfl) ⟨by rw [less_cmp], rfl⟩
end Go.Proofs.Ythopohagdehncaa
