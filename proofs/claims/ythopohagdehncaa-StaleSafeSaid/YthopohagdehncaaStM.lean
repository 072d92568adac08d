/-
  Contracts of functions that the claimed statement reaches, each proved over trees (the library Vx); used by the theorem at the end of the claim.
  Conditions: as each theorem states them.
-/
import Derived.Test.YthopohagdehncaaStL
namespace Go.Proofs.Ythopohagdehncaa
open Go Go.Vx
set_option maxRecDepth 100000

set_option maxHeartbeats 1000000 in
theorem refBlocks_w (cells : List GCell) (s : GSpan) (at_ : GStamp) (hl : cells.length ≤ 4611686018427387903) :
    Pure Try.prog 29 [.sl .ro (cells.map GCell.row), .agg s.row, .agg at_.row] (.tup [.agg (((cells.find? fun x => inS x.key s && bars at_ x).map (·.lock)).getD lock0).row, .bool (cells.find? fun x => inS x.key s && bars at_ x).isSome]) := by
  refine VCalls.intro 0 Try.func29 Try.ntmps29 Try.results29 rfl rfl (Nat.le_of_ble_eq_true rfl) fun c hc hb => wcode_of ?_
  generalize hq : (fun x : GCell => inS x.key s && bars at_ x) = q
  have hqx : ∀ x, q x = (inS x.key s && bars at_ x) := fun x => by rw [← hq]
  simp [go_sem]
  refine wVW_while (S := Nat) [0, 4, 5, 6, 7, 8] (fun i => [.sl .ro (cells.map GCell.row), .ptr 0 0, .ptr 1 0, .ptr 2 0, .bool false, .int .i64 i]) (fun _ => [.box s.row, .box at_.row, .box lock0.row]) (fun i => cells.length - i)
    (fun i => i ≤ cells.length ∧ cells.find? q = (cells.drop i).find? q) hc hb 0 ⟨Nat.zero_le _, by simp⟩ ?_ ?_
  · exact at_n 3 rfl rfl rfl (Nat.zero_le _) (args_lt_eq (by simp [go_sem]) rfl)
  rintro i ⟨hi, hf⟩
  refine wVW_code ?_
  simp [go_sem]
  refine wcond_i (fun h => ?_) (fun h => ?_)
  · have h : i < cells.length := by simpa using h
    have hg : ∃ x, cells[i] = x := ⟨_, rfl⟩
    obtain ⟨x, hg⟩ := hg
    have hno : q x = false → cells.find? q = (cells.drop (i + 1)).find? q := fun hx => by
      rw [hf, find_drop h (by rw [hg]; exact hx)]
    simp [go_sem, h, hg]
    refine wdraw [(6, 0), (22, 0)] 3 rfl (by kernel_rfl) (by kernel_rfl) ?_
    simp [go_sem, h, hg]
    refine wVD_pure (in_w x.key s) Try.callB23 (fun _ => args_no rfl) rfl ?_
    refine (Bool.eq_false_or_eq_true (inS x.key s)).elim (fun hb0 => ?inl) (fun hb0 => ?inr)
    case inr =>
      simp [go_sem, h, hg, hb0, inc64 h (by omega)]
      exact next_i (i + 1) ⟨by omega, ⟨h, hno (by rw [hqx, hb0]; rfl)⟩, at_n 3 (by simp [go_sem]) rfl rfl (Nat.zero_le _) (args_lt_eq (by simp [go_sem]) rfl)⟩
    case inl =>
    refine (Bool.eq_false_or_eq_true x.locked).elim (fun hb1 => ?inl) (fun hb1 => ?inr)
    case inr =>
      simp [go_sem, h, hg, hb0, hb1, inc64 h (by omega)]
      exact next_i (i + 1) ⟨by omega, ⟨h, hno (by rw [hqx, bars, hb0, hb1]; rfl)⟩, at_n 3 (by simp [go_sem]) rfl rfl (Nat.zero_le _) (args_lt_eq (by simp [go_sem]) rfl)⟩
    case inl =>
      simp [go_sem, h, hg, hb0, hb1]
      refine wVD_pure (refLess_w at_ x.lock.at_) Try.callB24 (fun _ => args_no rfl) rfl ?_
      refine (Bool.eq_false_or_eq_true (lessF at_ x.lock.at_)).elim (fun hb2 => ?inl) (fun hb2 => ?inr)
      case inl =>
        simp [go_sem, h, hg, hb1, hb2, inc64 h (by omega)]
        exact next_i (i + 1) ⟨by omega, ⟨h, hno (by rw [hqx, bars, hb0, hb1, hb2]; rfl)⟩, at_n 3 (by simp [go_sem]) rfl rfl (Nat.zero_le _) (args_lt_eq (by simp [go_sem]) rfl)⟩
      case inr =>
        have hfx : cells.find? q = some x := by
          rw [hf, List.drop_eq_getElem_cons h, List.find?_cons, hg, hqx, bars, hb0, hb1, hb2]; rfl
        simp [go_sem, h, hg, hb1, hb2]
        exact wret_0 (argS_no rfl) ⟨by rw [hfx]; rfl, rfl⟩
  · have h : cells.length ≤ i := by simpa using h
    rw [List.drop_eq_nil_of_le h] at hf
    simp [go_sem]
    exact wret_0 (argS_no rfl) ⟨by rw [hf]; rfl, rfl⟩
end Go.Proofs.Ythopohagdehncaa
