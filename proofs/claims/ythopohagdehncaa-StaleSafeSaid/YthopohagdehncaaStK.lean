/-
  Contracts of functions that the claimed statement reaches, each proved over trees (the library Vx); used by the theorem at the end of the claim.
  Conditions: as each theorem states them.
-/
import Derived.Test.YthopohagdehncaaStJ
namespace Go.Proofs.Ythopohagdehncaa
open Go Go.Vx
set_option maxRecDepth 100000

def verF (l : List GVersion) (at_ : GStamp) : Option GVersion := (l.filter fun v => !lessF at_ v.at_).getLast?
def tellsF (x : GCell) (at_ : GStamp) : Option (List UInt8) := match verF x.versions at_ with | some v => if v.drop = true then none else some v.data | none => none

theorem verF_none {l : List GVersion} {at_ : GStamp} (h : ∀ v ∈ l, lessF at_ v.at_ = true) : verF l at_ = none := by
  unfold verF
  have : l.filter (fun v => !lessF at_ v.at_) = [] := List.filter_eq_nil_iff.2 fun v hv => by simp [h v hv]
  rw [this]; rfl
theorem verF_some {l : List GVersion} {at_ : GStamp} {n : Nat} (h : n < l.length) (h1 : lessF at_ l[n].at_ = false) (h2 : ∀ m (hm : m < l.length), n < m → lessF at_ l[m].at_ = true) : verF l at_ = some l[n] := by
  unfold verF
  have e : l = l.take (n + 1) ++ l.drop (n + 1) := (List.take_append_drop _ _).symm
  have e2 : (l.drop (n + 1)).filter (fun v => !lessF at_ v.at_) = [] := List.filter_eq_nil_iff.2 fun v hv => by
    obtain ⟨m, hm, rfl⟩ := List.mem_iff_getElem.1 hv
    rw [List.getElem_drop]
    simp [h2 (n + 1 + m) (by simp at hm; omega) (by omega)]
  have e3 : (l.take (n + 1)).filter (fun v => !lessF at_ v.at_) = (l.take n).filter (fun v => !lessF at_ v.at_) ++ [l[n]] := by
    rw [List.take_succ_eq_append_getElem h, List.filter_append]
    simp [h1]
  have ef := congrArg (List.filter fun v => !lessF at_ v.at_) e
  rw [List.filter_append, e2, List.append_nil, e3] at ef
  rw [ef]
  simp
theorem verF_snoc (l : List GVersion) (v : GVersion) (at_ : GStamp) : verF (l ++ [v]) at_ = if lessF at_ v.at_ = true then verF l at_ else some v := by
  unfold verF
  rw [List.filter_append]
  cases h : lessF at_ v.at_ <;> simp [h]

theorem tells_w (x : GCell) (at_ : GStamp) (hx : x.ok) : Pure Try.prog 28 [.agg x.row, .agg at_.row] (.tup [.str ((tellsF x at_).getD []), .bool (tellsF x at_).isSome]) := by
  refine VCalls.intro 0 Try.func28 Try.ntmps28 Try.results28 rfl rfl (Nat.le_of_ble_eq_true rfl) fun c hc hb => wcode_of ?_
  simp [go_sem]
  refine wVC_rel (last_w x.versions at_ hx.versions.1) Try.callB35 (args_no rfl) (fun r h => by obtain ⟨i, rfl, _⟩ := h; rfl) ?_
  rintro r ⟨i, rfl, hi⟩
  rcases hi with ⟨rfl, hall⟩ | ⟨n, hn, rfl, h1, h2⟩
  · have hv := verF_none hall
    simp [go_sem]
    exact wret_0 (argS_no rfl) ⟨by simp [tellsF, hv], rfl⟩
  · have hv := verF_some hn h1 h2
    have hnn : ¬ ((n : Int) < 0) := by omega
    have hg : ∃ v, x.versions[n] = v := ⟨_, rfl⟩
    obtain ⟨v, hg⟩ := hg
    rw [hg] at hv
    refine (Bool.eq_false_or_eq_true v.drop).elim (fun hd => ?_) (fun hd => ?_)
    · simp [go_sem, hnn, hn, hg, hd]
      exact wret_0 (argS_no rfl) ⟨by simp [tellsF, hv, hd], rfl⟩
    · simp [go_sem, hnn, hn, hg, hd]
      exact wret_0 (argS_no rfl) ⟨by simp [tellsF, hv, hd], rfl⟩

set_option maxHeartbeats 1000000 in
theorem of_w (x : GCell) (at_ : GStamp) (hx : x.ok) : Pure Try.prog 36 [.agg x.row, .agg at_.row] (.tup [.str ((tellsF x at_).getD []), .bool (tellsF x at_).isSome]) := by
  have hml : maxLen = 9223372036854775807 := rfl
  have hvl := hx.versions.1
  refine VCalls.intro 0 Try.func36 Try.ntmps36 Try.results36 rfl rfl (Nat.le_of_ble_eq_true rfl) fun c hc hb => wcode_of ?_
  simp [go_sem]
  refine wVW_while (S := Nat × List UInt8 × Bool) [2, 3, 6, 7, 8] (fun s => [.ptr 0 0, .ptr 1 0, .str s.2.1, .bool s.2.2, .int .i64 s.1]) (fun _ => [.box x.row, .box at_.row]) (fun s => x.versions.length - s.1)
    (fun s => s.1 ≤ x.versions.length ∧ (match verF (x.versions.take s.1) at_ with | some v => s.2.1 = v.data ∧ s.2.2 = !v.drop | none => s.2.1 = [] ∧ s.2.2 = false)) hc hb (0, [], false) ⟨Nat.zero_le _, by simp [verF]⟩ ?_ ?_
  · exact at_n 2 rfl rfl rfl (Nat.zero_le _) (args_lt_eq (by simp [go_sem]) rfl)
  rintro ⟨i, d, b⟩ ⟨hi, hv⟩
  refine wVW_code ?_
  simp only at hi hv
  simp [go_sem]
  refine wcond_i (fun h => ?_) (fun h => ?_)
  · have h : i < x.versions.length := by simpa using h
    have hg : ∃ v, x.versions[i] = v := ⟨_, rfl⟩
    obtain ⟨v, hg⟩ := hg
    have hs := verF_snoc (x.versions.take i) v at_
    rw [← hg, ← List.take_succ_eq_append_getElem h, hg] at hs
    simp [go_sem, h, hg]
    refine wVC_pure (refLess_w at_ v.at_) Try.callB24 (args_no rfl) rfl ?_
    refine (Bool.eq_false_or_eq_true (lessF at_ v.at_)).elim (fun h2 => ?_) (fun h2 => ?_)
    · rw [h2, if_pos rfl] at hs
      simp [go_sem, h2, inc64 h (by omega)]
      exact next_i (i + 1, d, b) ⟨by simp only; omega, ⟨h, by simp only [hs]; exact hv⟩, at_n 2 rfl rfl rfl (Nat.zero_le _) (args_lt_eq (by simp [go_sem]) rfl)⟩
    · rw [h2, if_neg (by simp)] at hs
      simp [go_sem, h2]
      refine wdraw [] 3 rfl (by kernel_rfl) (by kernel_rfl) ?_
      simp [go_sem, inc64 h (by omega)]
      exact next_i (i + 1, v.data, !v.drop) ⟨by simp only; omega, ⟨h, by simp [hs]⟩, at_n 2 rfl rfl rfl (Nat.zero_le _) (args_lt_eq (by simp [go_sem]) rfl)⟩
  · have h : x.versions.length ≤ i := by simpa using h
    rw [List.take_of_length_le h] at hv
    refine (Bool.eq_false_or_eq_true b).elim (fun h2 => ?_) (fun h2 => ?_)
    · simp [go_sem, h2]
      refine wret_0 (argS_no rfl) ⟨?_, rfl⟩
      unfold tellsF
      cases hq : verF x.versions at_ with
      | none => rw [hq] at hv; rw [hv.2] at h2; cases h2
      | some v => rw [hq] at hv; rw [hv.2] at h2; simp at h2; simp [h2, hv.1]
    · simp [go_sem, h2]
      refine wret_0 (argS_no rfl) ⟨?_, rfl⟩
      unfold tellsF
      cases hq : verF x.versions at_ with
      | none => simp
      | some v => rw [hq] at hv; rw [hv.2] at h2; simp at h2; simp [h2]
end Go.Proofs.Ythopohagdehncaa
