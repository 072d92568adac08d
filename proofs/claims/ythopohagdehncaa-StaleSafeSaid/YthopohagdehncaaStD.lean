/-
  Contracts of functions that the claimed statement reaches, each proved over trees (the library Vx); used by the theorem at the end of the claim.
  Conditions: as each theorem states them.
-/
import Derived.Test.YthopohagdehncaaStB
import Derived.Test.YthopohagdehncaaDat
namespace Go.Proofs.Ythopohagdehncaa
open Go Go.Vx
set_option maxRecDepth 100000

/-- A key within a span. -/
def inS (key : List UInt8) (s : GSpan) : Bool := !(Op.bytesLess key s.lo) && Op.bytesLess key s.hi
def stepS (t : Int) (c : GCell) (s : GSpan) : Int := if c.locked = true ∧ inS c.key s = true ∧ c.lock.at_.wall ≤ t then agoF c.lock.at_.wall 1 else t
def safeF (p : GPart) (spans : List GSpan) : Int := p.cells.foldl (fun t c => spans.foldl (fun t s => stepS t c s) t) p.closed

set_option maxHeartbeats 2000000 in
theorem safe_w (p : GPart) (spans : List GSpan) (hp : p.ok) (hs : spans.length ≤ maxLen) : Pure Try.prog 13 [.agg p.row, .sl .ro (spans.map GSpan.row)] (.int .i64 (safeF p spans)) := by
  have hml : maxLen = 9223372036854775807 := rfl
  have hcl := hp.cells.1
  have hpc := hp.closed
  refine VCalls.intro 0 Try.func13 Try.ntmps13 Try.results13 rfl rfl (Nat.le_of_ble_eq_true rfl) fun c hc hb => wcode_of ?_
  simp [go_sem]
  refine wVW_while (S := Nat × Int) [1, 2, 5, 13, 14, 15] (fun s => [.sl .ro (spans.map GSpan.row), .ptr 0 0, .int .i64 s.2, .sl .ro (p.cells.map GCell.row), .int .i64 p.cells.length, .int .i64 s.1]) (fun _ => [.box p.row]) (fun s => p.cells.length - s.1)
    (fun s => s.1 ≤ p.cells.length ∧ s.2 = (p.cells.take s.1).foldl (fun t c => spans.foldl (fun t s => stepS t c s) t) p.closed ∧ i64R s.2) hc hb (0, p.closed) ⟨Nat.zero_le _, rfl, hpc⟩ ?_ ?_
  · exact at_n 1 rfl rfl rfl (Nat.zero_le _) (args_lt_eq (by simp [go_sem]) rfl)
  rintro ⟨i, t⟩ ⟨hi, ht, htr⟩
  refine wVW_code ?_
  simp [go_sem]
  refine wcond_i (fun h => ?_) (fun h => ?_)
  · have h : i < p.cells.length := by simpa using h
    simp only at hi ht htr
    simp [go_sem, h]
    have hx : ∃ x, p.cells[i] = x := ⟨_, rfl⟩
    obtain ⟨x, hx⟩ := hx
    have hxo : x.ok := hp.cells.2 x (hx ▸ List.getElem_mem h)
    simp only [hx]
    refine wVW_while (S := Nat × Int) [1, 2, 5, 7, 13, 14, 15, 19, 20, 21] (fun s => [.sl .ro (spans.map GSpan.row), .ptr 0 0, .int .i64 s.2, .ptr 1 0, .sl .ro (p.cells.map GCell.row), .int .i64 p.cells.length, .int .i64 i, .sl .ro (spans.map GSpan.row), .int .i64 spans.length, .int .i64 s.1]) (fun _ => [.box p.row, .box x.row]) (fun s => spans.length - s.1)
      (fun s => s.1 ≤ spans.length ∧ s.2 = (spans.take s.1).foldl (fun t s => stepS t x s) t ∧ i64R s.2) hc hb (0, t) ⟨Nat.zero_le _, rfl, htr⟩ ?_ ?_
    · exact at_n 2 rfl rfl rfl (Nat.zero_le _) (args_lt_eq (by simp [go_sem]) rfl)
    rintro ⟨k, u⟩ ⟨hk, hu, hur⟩
    simp only at hk hu hur
    refine wVW_code ?_
    simp [go_sem]
    refine wcond_i (fun h2 => ?_) (fun h2 => ?_)
    · have h2 : k < spans.length := by simpa using h2
      have hy : ∃ y, spans[k] = y := ⟨_, rfl⟩
      obtain ⟨y, hy⟩ := hy
      have hnext : (spans.take (k + 1)).foldl (fun t s => stepS t x s) t = stepS u x y := by
        rw [List.take_succ_eq_append_getElem h2, List.foldl_append, ← hu, hy]; rfl
      have hstep : i64R (stepS u x y) := by
        have := hxo.lock.at_.wall
        unfold stepS agoF minI; unfold i64R at *
        split <;> (try split) <;> omega
      have hnew : ∀ b1 b2 b3 : Bool, x.locked = b1 → Op.bytesLess x.key y.lo = b2 → Op.bytesLess x.key y.hi = b3 → ¬ (b1 = true ∧ b2 = false ∧ b3 = true) → stepS u x y = u := by
        intro b1 b2 b3 e1 e2 e3 hn
        unfold stepS inS
        rw [e1, e2, e3, if_neg]
        rintro ⟨q1, q2, _⟩
        simp at q2
        exact hn ⟨q1, q2⟩
      simp [go_sem, h2, hy]
      refine (Bool.eq_false_or_eq_true x.locked).elim (fun hb1 => ?inl) (fun hb1 => ?inr)
      case inr =>
        simp [go_sem, hb1, inc64 h2 (by omega), putCells]
        exact next_i (k + 1, u) ⟨by simp only; omega, ⟨h2, by rw [hnext, hnew _ _ _ hb1 rfl rfl (by simp)], hur⟩, at_n 2 (by simp [go_sem, hb1]) rfl rfl (Nat.zero_le _) (args_lt_eq (by simp [go_sem]) rfl)⟩
      case inl =>
        refine (Bool.eq_false_or_eq_true (Op.bytesLess x.key y.lo)).elim (fun hb2 => ?inl) (fun hb2 => ?inr)
        case inl =>
          simp [go_sem, hb1, hb2, inc64 h2 (by omega), putCells]
          exact next_i (k + 1, u) ⟨by simp only; omega, ⟨h2, by rw [hnext, hnew _ _ _ hb1 hb2 rfl (by simp)], hur⟩, at_n 2 (by simp [go_sem, hb1]) rfl rfl (Nat.zero_le _) (args_lt_eq (by simp [go_sem]) rfl)⟩
        case inr =>
          refine (Bool.eq_false_or_eq_true (Op.bytesLess x.key y.hi)).elim (fun hb3 => ?inl) (fun hb3 => ?inr)
          case inr =>
            simp [go_sem, hb1, hb2, hb3, inc64 h2 (by omega), putCells]
            exact next_i (k + 1, u) ⟨by simp only; omega, ⟨h2, by rw [hnext, hnew _ _ _ hb1 hb2 hb3 (by simp)], hur⟩, at_n 2 (by simp [go_sem, hb1]) rfl rfl (Nat.zero_le _) (args_lt_eq (by simp [go_sem]) rfl)⟩
          case inl =>
            simp [go_sem, hb1, hb2, hb3, inc64 h2 (by omega), putCells]
            refine next_i (k + 1, stepS u x y) ⟨by simp only; omega, ⟨h2, hnext.symm, hstep⟩, at_n 2 (by simp [go_sem, hb1]) rfl rfl (Nat.zero_le _) (args_lt_eq ?_ rfl)⟩
            simp [go_sem]
            have hw := hxo.lock.at_.wall
            have hst : stepS u x y = if x.lock.at_.wall ≤ u then agoF x.lock.at_.wall 1 else u := by
              unfold stepS inS
              rw [hb1, hb2, hb3]; simp
            have hwr : IntKind.i64.wrap ((if x.lock.at_.wall < -9223372036854775807 then -9223372036854775807 else x.lock.at_.wall) - 1) = (if x.lock.at_.wall < -9223372036854775807 then -9223372036854775807 else x.lock.at_.wall) - 1 := IntWalk.i64_in _ (by split <;> omega)
            rw [hwr, hst]
            unfold agoF minI
            unfold i64R at hur
            split <;> split <;> (try split) <;> (try split) <;> omega
    · have h2 : spans.length ≤ k := by simpa using h2
      rw [List.take_of_length_le h2] at hu
      simp [go_sem, inc64 h (by omega)]
      refine next_i (i + 1, u) ⟨by simp only; omega, ⟨h, ?_, hur⟩, at_n 1 (by simp [go_sem]) rfl rfl (Nat.zero_le _) (args_lt_eq (by simp [go_sem, inc64 h (by omega)]) rfl)⟩
      rw [List.take_succ_eq_append_getElem h, List.foldl_append, ← ht, hx, hu]; rfl
  · have h : p.cells.length ≤ i := by simpa using h
    simp only at ht
    rw [List.take_of_length_le h] at ht
    simp [go_sem]
    exact wret_0 (argS_no rfl) ⟨by rw [ht]; rfl, rfl⟩
end Go.Proofs.Ythopohagdehncaa
