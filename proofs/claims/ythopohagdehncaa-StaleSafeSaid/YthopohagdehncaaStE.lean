/-
  Contracts of functions that the claimed statement reaches, each proved over trees (the library Vx); used by the theorem at the end of the claim.
  Conditions: as each theorem states them.
-/
import Derived.Test.YthopohagdehncaaStD
namespace Go.Proofs.Ythopohagdehncaa
open Go Go.Vx
set_option maxRecDepth 100000

theorem in_w (key : List UInt8) (s : GSpan) : Pure Try.prog 23 [.str key, .agg s.row] (.bool (inS key s)) := by
  refine VCalls.intro 0 Try.func23 Try.ntmps23 Try.results23 rfl rfl (Nat.le_of_ble_eq_true rfl) fun c hc hb => wcode_of ?_
  simp [go_sem]
  refine (Bool.eq_false_or_eq_true (Op.bytesLess key s.lo)).elim (fun h => ?_) (fun h => ?_)
  · simp [go_sem, h, putCells]
    exact wret_0 (argS_no rfl) ⟨by simp [inS, h], rfl⟩
  · simp [go_sem, h, putCells]
    exact wret_0 (argS_no rfl) ⟨by simp [inS, h], rfl⟩

set_option maxHeartbeats 2000000 in
theorem refSafe_w (p : GPart) (spans : List GSpan) (hp : p.ok) (hs : spans.length ≤ maxLen) : Pure Try.prog 14 [.agg p.row, .sl .ro (spans.map GSpan.row)] (.int .i64 (safeF p spans)) := by
  have hml : maxLen = 9223372036854775807 := rfl
  have hcl := hp.cells.1
  have hpc := hp.closed
  refine VCalls.intro 0 Try.func14 Try.ntmps14 Try.results14 rfl rfl (Nat.le_of_ble_eq_true rfl) fun c hc hb => wcode_of ?_
  simp [go_sem]
  refine wVW_while (S := Nat × Int) [1, 2, 5, 6] (fun s => [.sl .ro (spans.map GSpan.row), .ptr 0 0, .int .i64 s.2, .int .i64 s.1]) (fun _ => [.box p.row]) (fun s => p.cells.length - s.1)
    (fun s => s.1 ≤ p.cells.length ∧ s.2 = (p.cells.take s.1).foldl (fun t c => spans.foldl (fun t s => stepS t c s) t) p.closed ∧ i64R s.2) hc hb (0, p.closed) ⟨Nat.zero_le _, rfl, hpc⟩ ?_ ?_
  · exact at_n 1 rfl rfl rfl (Nat.zero_le _) (args_lt_eq (by simp [go_sem]) rfl)
  rintro ⟨i, t⟩ ⟨hi, ht, htr⟩
  refine wVW_code ?_
  simp [go_sem]
  refine wcond_i (fun h => ?_) (fun h => ?_)
  · have h : i < p.cells.length := by simpa using h
    simp only at hi ht htr
    simp [go_sem, h]
    have hx : ∃ x, p.cells[i] = x := ⟨_, rfl⟩
    obtain ⟨x, hx⟩ := hx
    have hxo : x.ok := hp.cells.2 x (hx ▸ List.getElem_mem h)
    refine wVW_while (S := Nat × Int) [1, 2, 5, 6, 7] (fun s => [.sl .ro (spans.map GSpan.row), .ptr 0 0, .int .i64 s.2, .int .i64 i, .int .i64 s.1]) (fun _ => [.box p.row]) (fun s => spans.length - s.1)
      (fun s => s.1 ≤ spans.length ∧ s.2 = (spans.take s.1).foldl (fun t s => stepS t x s) t ∧ i64R s.2) hc hb (0, t) ⟨Nat.zero_le _, rfl, htr⟩ ?_ ?_
    · exact at_n 1 rfl rfl rfl (Nat.zero_le _) (args_lt_eq (by simp [go_sem]) rfl)
    rintro ⟨k, u⟩ ⟨hk, hu, hur⟩
    simp only at hk hu hur
    refine wVW_code ?_
    simp [go_sem]
    refine wcond_i (fun h2 => ?_) (fun h2 => ?_)
    · have h2 : k < spans.length := by simpa using h2
      have hy : ∃ y, spans[k] = y := ⟨_, rfl⟩
      obtain ⟨y, hy⟩ := hy
      have hnext : (spans.take (k + 1)).foldl (fun t s => stepS t x s) t = stepS u x y := by
        rw [List.take_succ_eq_append_getElem h2, List.foldl_append, ← hu, hy]; rfl
      have hw := hxo.lock.at_.wall
      have hstep : i64R (stepS u x y) := by
        unfold stepS agoF minI; unfold i64R at *
        split <;> (try split) <;> omega
      simp [go_sem, h, h2, hx, hy, putCells]
      refine wdraw [(9, 0)] 2 rfl (by kernel_rfl) (by kernel_rfl) ?_
      refine (Bool.eq_false_or_eq_true x.locked).elim (fun hb1 => ?inl) (fun hb1 => ?inr)
      case inr =>
        have hno : stepS u x y = u := by unfold stepS; rw [hb1, if_neg (by simp)]
        simp [go_sem, hb1, putCells]
        exact next_i (k + 1, u) ⟨by simp only; omega, ⟨h2, by rw [hnext, hno], hur⟩, at_n 1 (by simp [go_sem]) rfl rfl (Nat.zero_le _) (args_lt_eq (by simp [go_sem, inc64 h2 (by omega)]) rfl)⟩
      case inl =>
        simp [go_sem, hb1, putCells, hy, h2]
        refine wVD_pure (in_w x.key y) Try.callB23 (fun _ => args_no rfl) rfl ?_
        refine (Bool.eq_false_or_eq_true (inS x.key y)).elim (fun hb2 => ?inl) (fun hb2 => ?inr)
        case inr =>
          have hno : stepS u x y = u := by unfold stepS; rw [hb2, if_neg (by simp)]
          simp [go_sem, hb1, hb2, putCells]
          exact next_i (k + 1, u) ⟨by simp only; omega, ⟨h2, by rw [hnext, hno], hur⟩, at_n 1 (by simp [go_sem]) rfl rfl (Nat.zero_le _) (args_lt_eq (by simp [go_sem, inc64 h2 (by omega)]) rfl)⟩
        case inl =>
          have hst : stepS u x y = if x.lock.at_.wall ≤ u then agoF x.lock.at_.wall 1 else u := by
            unfold stepS; rw [hb1, hb2]; simp
          simp [go_sem, hb1, hb2, putCells]
          refine wcond_i (fun h3 => ?_) (fun h3 => ?_)
          · simp [go_sem]
            refine wVC_pure (less_w x.lock.at_.wall 1 hw (by decide) (by decide)) Try.callB16 (args_no rfl) rfl ?_
            simp [go_sem, inc64 h2 (by omega)]
            exact next_i (k + 1, stepS u x y) ⟨by simp only; omega, ⟨h2, hnext.symm, hstep⟩, at_n 1 (by simp [go_sem]) rfl rfl (Nat.zero_le _) (args_lt_eq (by simp at h3; simp [go_sem, hst, h3]) rfl)⟩
          · simp [go_sem, inc64 h2 (by omega)]
            exact next_i (k + 1, stepS u x y) ⟨by simp only; omega, ⟨h2, hnext.symm, hstep⟩, at_n 1 (by simp [go_sem]) rfl rfl (Nat.zero_le _) (args_lt_eq (by simp at h3; simp [go_sem, hst, Int.not_le.2 h3]) rfl)⟩
    · have h2 : spans.length ≤ k := by simpa using h2
      rw [List.take_of_length_le h2] at hu
      simp [go_sem, inc64 h (by omega)]
      refine next_i (i + 1, u) ⟨by simp only; omega, ⟨h, ?_, hur⟩, at_n 1 (by simp [go_sem]) rfl rfl (Nat.zero_le _) (args_lt_eq (by simp [go_sem, inc64 h (by omega)]) rfl)⟩
      rw [List.take_succ_eq_append_getElem h, List.foldl_append, ← ht, hx, hu]; rfl
  · have h : p.cells.length ≤ i := by simpa using h
    simp only at ht
    rw [List.take_of_length_le h] at ht
    simp [go_sem]
    exact wret_0 (argS_no rfl) ⟨by rw [ht]; rfl, rfl⟩
end Go.Proofs.Ythopohagdehncaa
