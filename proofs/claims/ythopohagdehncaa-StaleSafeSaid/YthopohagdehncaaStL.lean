/-
  Contracts of functions that the claimed statement reaches, each proved over trees (the library Vx); used by the theorem at the end of the claim.
  Conditions: as each theorem states them.
-/
import Derived.Test.YthopohagdehncaaStK
namespace Go.Proofs.Ythopohagdehncaa
open Go Go.Vx
set_option maxRecDepth 100000

def lock0 : GLock := ⟨⟨0, 0, 0, 0⟩, 0, ⟨0, 0⟩, false, []⟩
/-- Does a cell's lock stand in the way? -/
def bars (at_ : GStamp) (x : GCell) : Bool := x.locked && !lessF at_ x.lock.at_

theorem find_drop {l : List GCell} {p : GCell → Bool} {i : Nat} (h : i < l.length) (hn : p l[i] = false) : (l.drop i).find? p = (l.drop (i + 1)).find? p := by
  rw [List.drop_eq_getElem_cons h, List.find?_cons, hn]

set_option maxHeartbeats 1000000 in
theorem blocks_w (cells : List GCell) (s : GSpan) (at_ : GStamp) (hl : cells.length ≤ 4611686018427387903) (h1 : Mono cells s.lo) (h2 : Mono cells s.hi) :
    Pure Try.prog 20 [.sl .ro (cells.map GCell.row), .agg s.row, .agg at_.row] (.tup [.agg ((((withinF cells s).find? (bars at_)).map (·.lock)).getD lock0).row, .bool ((withinF cells s).find? (bars at_)).isSome]) := by
  refine VCalls.intro 0 Try.func20 Try.ntmps20 Try.results20 rfl rfl (Nat.le_of_ble_eq_true rfl) fun c hc hb => wcode_of ?_
  have hwl : (withinF cells s).length ≤ 4611686018427387903 := by
    unfold withinF
    split
    · simp
    · simp; omega
  simp [go_sem]
  refine wVC_pure (within_w cells s hl h1 h2) Try.callB26 (args_no rfl) rfl ?_
  generalize withinF cells s = l at hwl
  simp [go_sem]
  refine wVW_while (S := Nat) [5, 6, 12, 13, 14] (fun i => [.ptr 1 0, .ptr 2 0, .sl .ro (l.map GCell.row), .int .i64 l.length, .int .i64 i]) (fun _ => [.box s.row, .box at_.row, .box lock0.row]) (fun i => l.length - i)
    (fun i => i ≤ l.length ∧ l.find? (bars at_) = (l.drop i).find? (bars at_)) hc hb 0 ⟨Nat.zero_le _, by simp⟩ ?_ ?_
  · exact at_n 3 rfl rfl rfl (Nat.zero_le _) (args_lt_eq (by simp [go_sem]) rfl)
  rintro i ⟨hi, hf⟩
  refine wVW_code ?_
  simp [go_sem]
  refine wcond_i (fun h => ?_) (fun h => ?_)
  · have h : i < l.length := by simpa using h
    have hg : ∃ x, l[i] = x := ⟨_, rfl⟩
    obtain ⟨x, hg⟩ := hg
    simp [go_sem, h, hg]
    refine (Bool.eq_false_or_eq_true x.locked).elim (fun hb1 => ?inl) (fun hb1 => ?inr)
    case inr =>
      simp [go_sem, hb1, inc64 h (by omega)]
      exact next_i (i + 1) ⟨by omega, ⟨h, by rw [hf, find_drop h (by rw [hg]; simp [bars, hb1])]⟩, at_n 3 (by simp [go_sem]) rfl rfl (Nat.zero_le _) (args_lt_eq (by simp [go_sem]) rfl)⟩
    case inl =>
      simp [go_sem, hb1]
      refine wVC_pure (sless_w at_ x.lock.at_) Try.callB27 (args_no rfl) rfl ?_
      refine (Bool.eq_false_or_eq_true (lessF at_ x.lock.at_)).elim (fun hb2 => ?inl) (fun hb2 => ?inr)
      case inl =>
        simp [go_sem, hb1, hb2, inc64 h (by omega)]
        exact next_i (i + 1) ⟨by omega, ⟨h, by rw [hf, find_drop h (by rw [hg]; simp [bars, hb2])]⟩, at_n 3 (by simp [go_sem]) rfl rfl (Nat.zero_le _) (args_lt_eq (by simp [go_sem]) rfl)⟩
      case inr =>
        have hfx : l.find? (bars at_) = some x := by
          rw [hf, List.drop_eq_getElem_cons h, List.find?_cons, hg]; simp [bars, hb1, hb2]
        simp [go_sem, hb1, hb2]
        exact wret_0 (argS_no rfl) ⟨by rw [hfx]; rfl, rfl⟩
  · have h : l.length ≤ i := by simpa using h
    rw [List.drop_eq_nil_of_le h] at hf
    simp [go_sem]
    exact wret_0 (argS_no rfl) ⟨by rw [hf]; rfl, rfl⟩
end Go.Proofs.Ythopohagdehncaa
