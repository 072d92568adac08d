/-
  Contracts of functions that the claimed statement reaches, each proved over trees (the library Vx); used by the theorem at the end of the claim.
  Conditions: as each theorem states them.
-/
import Derived.Test.YthopohagdehncaaStN
namespace Go.Proofs.Ythopohagdehncaa
open Go Go.Vx
set_option maxRecDepth 100000

def pairsIn (l : List GCell) (s : GSpan) (at_ : GStamp) : List GPair := pairsF (l.filter fun x => inS x.key s) at_

set_option maxHeartbeats 1000000 in
theorem refScan_w (cells : List GCell) (s : GSpan) (at_ : GStamp) (most : Int) (hl : cells.length ≤ 1000000) (ho : ∀ x ∈ cells, x.ok) :
    Pure Try.prog 31 [.sl .ro (cells.map GCell.row), .agg s.row, .agg at_.row, .int .i64 most] (if ((pairsIn cells s at_).length : Int) > max most 0 then .tup [.sl .ro [], .int .i64 3] else .tup [.sl .ro ((pairsIn cells s at_).map GPair.row), .int .i64 0]) := by
  refine VCalls.intro 0 Try.func31 Try.ntmps31 Try.results31 rfl rfl (Nat.le_of_ble_eq_true rfl) fun c hc hb => wcode_of ?_
  simp [go_sem]
  refine wVW_while (S := Nat × List GPair) [0, 3, 5, 6, 10, 11] (fun u => [.sl .ro (cells.map GCell.row), .int .i64 most, .ptr 0 0, .ptr 1 0, growV 2 GPair.row u.2, .int .i64 u.1]) (fun u => [.box s.row, .box at_.row] ++ growS 2 u.2) (fun u => cells.length - u.1)
    (fun u => u.1 ≤ cells.length ∧ u.2 = pairsIn (cells.take u.1) s at_) hc hb (0, []) ⟨Nat.zero_le _, by simp [pairsIn, pairsF]⟩ ?_ ?_
  · exact at_n 2 rfl rfl rfl (Nat.zero_le _) (args_lt_eq (by simp [go_sem, growV]) rfl)
  rintro ⟨i, out⟩ ⟨hi, hout⟩
  simp only at hi hout
  refine wVW_code ?_
  simp [go_sem]
  refine wcond_i (fun h => ?_) (fun h => ?_)
  · have h : i < cells.length := by simpa using h
    have hg : ∃ x, cells[i] = x := ⟨_, rfl⟩
    obtain ⟨x, hg⟩ := hg
    have hxo : x.ok := ho x (hg ▸ List.getElem_mem h)
    have hnext : pairsIn (cells.take (i + 1)) s at_ = out ++ (if inS x.key s = true then (match tellsF x at_ with | some d => [⟨x.key, d⟩] | none => []) else []) := by
      rw [List.take_succ_eq_append_getElem h, hg, hout]
      unfold pairsIn pairsF
      rw [List.filter_append, List.filterMap_append]
      cases hq : inS x.key s <;> cases hr : tellsF x at_ <;> simp [hq, hr]
    have hlen : out.length ≤ 1000000 := by
      rw [hout]; unfold pairsIn pairsF
      have h1 := List.length_filterMap_le (fun x => (tellsF x at_).map fun d => (⟨x.key, d⟩ : GPair)) ((cells.take i).filter fun x => inS x.key s)
      have h2 := List.length_filter_le (fun x : GCell => inS x.key s) (cells.take i)
      simp at h2; omega
    cases out with
    | nil =>
      simp [go_sem, h, hg, growV, growS]
      refine wdraw [(6, 0)] 2 rfl (by kernel_rfl) (by kernel_rfl) ?_
      simp [go_sem, h, hg]
      refine wVD_pure (in_w x.key s) Try.callB23 (fun _ => args_no rfl) rfl ?_
      refine (Bool.eq_false_or_eq_true (inS x.key s)).elim (fun hb0 => ?inl) (fun hb0 => ?inr)
      case inr =>
        rw [hb0] at hnext
        simp [go_sem, hb0, inc64 h (by omega)]
        exact next_i (i + 1, []) ⟨by simp only; omega, ⟨h, by simp [hnext]⟩, at_n 2 rfl rfl rfl (Nat.zero_le _) (args_lt_eq (by simp [go_sem, growV]) rfl)⟩
      case inl =>
        rw [hb0] at hnext
        simp [go_sem, hb0]
        refine wdraw [(5, 0)] 2 rfl (by kernel_rfl) (by kernel_rfl) ?_
        simp [go_sem, h, hg]
        refine wVD_pure (of_w x at_ hxo) Try.callB36 (fun _ => args_no rfl) rfl ?_
        cases ht : tellsF x at_ with
        | none =>
          rw [ht] at hnext
          simp [go_sem, inc64 h (by omega)]
          exact next_i (i + 1, []) ⟨by simp only; omega, ⟨h, by simp [hnext]⟩, at_n 2 rfl rfl rfl (Nat.zero_le _) (args_lt_eq (by simp [go_sem, growV]) rfl)⟩
        | some d =>
          rw [ht] at hnext
          simp [go_sem, h, hg]
          refine wneed_i ⟨by simp [uni], by simp [uni]⟩ ?_
          simp [go_sem, inc64 h (by omega)]
          exact next_i (i + 1, [⟨x.key, d⟩]) ⟨by simp only; omega, ⟨h, by simp [hnext]⟩, at_n 3 rfl rfl rfl (Nat.zero_le _) (args_lt_eq (by simp [go_sem, growV]) rfl)⟩
    | cons p out =>
      simp [go_sem, h, hg, growV, growS]
      refine wdraw [(6, 0)] 3 rfl (by kernel_rfl) (by kernel_rfl) ?_
      simp [go_sem, h, hg]
      refine wVD_pure (in_w x.key s) Try.callB23 (fun _ => args_no rfl) rfl ?_
      refine (Bool.eq_false_or_eq_true (inS x.key s)).elim (fun hb0 => ?inl) (fun hb0 => ?inr)
      case inr =>
        rw [hb0] at hnext
        simp [go_sem, hb0, inc64 h (by omega)]
        exact next_i (i + 1, p :: out) ⟨by simp only; omega, ⟨h, by simp [hnext]⟩, at_n 3 rfl rfl rfl (Nat.zero_le _) (args_lt_eq (by simp [go_sem, growV]) rfl)⟩
      case inl =>
        rw [hb0] at hnext
        simp [go_sem, hb0]
        refine wdraw [(5, 0)] 3 rfl (by kernel_rfl) (by kernel_rfl) ?_
        simp [go_sem, h, hg]
        refine wVD_pure (of_w x at_ hxo) Try.callB36 (fun _ => args_no rfl) rfl ?_
        cases ht : tellsF x at_ with
        | none =>
          rw [ht] at hnext
          simp [go_sem, inc64 h (by omega)]
          exact next_i (i + 1, p :: out) ⟨by simp only; omega, ⟨h, by simp [hnext]⟩, at_n 3 rfl rfl rfl (Nat.zero_le _) (args_lt_eq (by simp [go_sem, growV]) rfl)⟩
        | some d =>
          rw [ht] at hnext
          simp [go_sem, h, hg]
          simp at hlen
          refine wneed_i ⟨by omega, by simp [uni]⟩ ?_
          simp [go_sem, inc64 h (by omega)]
          exact next_i (i + 1, p :: (out ++ [⟨x.key, d⟩])) ⟨by simp only; omega, ⟨h, by simp [hnext]⟩, at_n 3 (by simp [go_sem, growS]) rfl rfl (Nat.zero_le _) (args_lt_eq (by simp [go_sem, growV]) rfl)⟩
  · have h : cells.length ≤ i := by simpa using h
    rw [List.take_of_length_le h] at hout
    have hmx : (if most < 0 then 0 else most) = max most 0 := by omega
    rw [← hout]
    cases out with
    | nil =>
      simp [go_sem, growV, growS, hmx]
      refine wcond_i (fun h2 => ?_) (fun h2 => ?_)
      · exfalso; simp at h2; omega
      · simp [go_sem]
        refine wret_0 (r := .tup [.sl .ro [], .int .i64 0]) (argS_tup ⟨argA_ro, argA_no rfl, trivial⟩) ⟨?_, rfl⟩
        rw [if_neg (by simp; omega)]
    | cons p out =>
      simp [go_sem, growV, growS, hmx]
      refine wcond_i (fun h2 => ?_) (fun h2 => ?_)
      · simp [go_sem]
        refine wret_0 (r := .tup [.sl .ro [], .int .i64 3]) (argS_tup ⟨argA_ro, argA_no rfl, trivial⟩) ⟨?_, rfl⟩
        simp at h2
        rw [if_pos (by omega)]
      · simp [go_sem]
        refine wret_0 (r := .tup [.sl .ro ((p :: out).map GPair.row), .int .i64 0]) (argS_tup ⟨argA_ro, argA_no rfl, trivial⟩) ⟨?_, rfl⟩
        simp at h2
        rw [if_neg (by omega)]; rfl
end Go.Proofs.Ythopohagdehncaa
