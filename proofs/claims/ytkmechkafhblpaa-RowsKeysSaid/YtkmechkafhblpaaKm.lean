/-
  Contracts of functions that the claimed statement reaches, each proved over trees (the library Vx); used by the theorem at the end of the claim.
  Conditions: as each theorem states them.
-/
import Derived.Test.YtkmechkafhblpaaSmH
import Derived.Test.YtkmechkafhblpaaRmB
import Derived.Test.YtkmechkafhblpaaRmC
namespace Go.Proofs.Ytkmechkafhblpaa.R
open Go Go.Vx
set_option maxRecDepth 100000

theorem refMayRow_w (t : GTable) (row : List GValue) (hr : row.length ≤ maxLen) : Pure Try.prog 14 [.agg t.row, .sl .ro (row.map GValue.row)] (.int .i64 (mayT t.cols row)) := by
  obtain ⟨name, cols, key, place, region, zone⟩ := t
  refine VCalls.introV 0 Try.func14 Try.ntmps14 Try.results14 rfl rfl (Nat.le_of_ble_eq_true rfl) fun c hc hb => ?_
  refine wVW_code ?_
  have ret : ∀ (r : Int) (σ : St), r = mayT cols row → wret (some (.int .i64 r)) 0 (fun r s => r = .int .i64 (mayT cols row) ∧ s = []) σ := fun r σ h => by subst h; exact wret_0 (argS_no rfl) ⟨rfl, rfl⟩
  simp [go_sem]
  refine wcond_i (fun h => ?_) (fun h => ?_)
  · have h : row.length ≠ cols.length := by simp at h; omega
    simp [go_sem]
    exact ret _ _ (by rw [mayT, if_pos h])
  have h : row.length = cols.length := by simp at h; omega
  rw [mayT, if_neg (by omega)] at ret ⊢
  simp [go_sem]
  refine wVW_while (S := Nat) [1, 2, 5] (fun i => [.sl .ro (row.map GValue.row), .ptr 0 0, .int .i64 i]) (fun _ => [.box (GTable.row ⟨name, cols, key, place, region, zone⟩)]) (fun i => row.length - i) (fun i => i ≤ row.length ∧ mayRowF (cols.drop i) (row.drop i) = mayRowF cols row) hc hb 0 ⟨Nat.zero_le _, rfl⟩ ?_ ?_
  · exact at_n 1 (by simp [go_sem]) rfl rfl (Nat.zero_le _) (args_lt_eq (by simp [go_sem]) rfl)
  rintro i ⟨hi, hinv⟩
  refine wVW_code ?_
  simp [go_sem]
  refine wcond_i (fun q => ?_) (fun q => ?_)
  · have q : i < row.length := by simpa using q
    have q2 : i < cols.length := by omega
    have ei := i64_inc q (by unfold maxLen at hr; omega)
    rw [List.drop_eq_getElem_cons q, List.drop_eq_getElem_cons q2] at hinv
    obtain ⟨⟨k, n, s⟩, hv⟩ : ∃ v, row[i] = v := ⟨_, rfl⟩
    obtain ⟨⟨cn, ck, cb⟩, hcol⟩ : ∃ v, cols[i] = v := ⟨_, rfl⟩
    rw [hv, hcol, mayRowF] at hinv
    simp only at hinv
    simp [go_sem, q, hv]
    refine wVC_pure (refMay_w ⟨k, n, s⟩) Try.callB27 (args_no rfl) rfl ?_
    simp [go_sem]
    refine wcond_i (fun h1 => ?_) (fun h1 => ?_)
    · have h1 : mayF ⟨k, n, s⟩ = false := by simpa using h1
      rw [if_pos h1] at hinv
      simp [go_sem]
      exact ret _ _ hinv
    have h1 : ¬ mayF ⟨k, n, s⟩ = false := by simpa using h1
    rw [if_neg h1] at hinv
    simp [go_sem, q, hv]
    refine wgrd_i (fun h2 => ?_) (fun h2 => ?_)
    · have h2' : k = 0 := by simpa using h2
      simp [go_sem, h2, q2, hcol]
      refine wcond_i (fun h3 => ?_) (fun h3 => ?_)
      · have h3 : cb = false := by simpa using h3
        rw [if_pos ⟨h2', h3⟩] at hinv
        simp [go_sem]
        exact ret _ _ hinv
      have h3 : ¬ cb = false := by simpa using h3
      rw [if_neg (fun w => h3 w.2), if_neg (fun w => w.1 h2')] at hinv
      simp [go_sem]
      refine wdraw [] 1 rfl (by kernel_rfl) (by kernel_rfl) ?_
      simp [go_sem, h2', q, hv, q2, hcol, ei]
      exact next_i (i + 1) ⟨by omega, ⟨q, hinv⟩, at_n 1 (by simp [go_sem]) rfl rfl (Nat.zero_le _) (args_lt_eq (by simp [go_sem, ei]) rfl)⟩
    · have h2' : ¬ k = 0 := by simpa using h2
      rw [if_neg (fun w => h2' w.1)] at hinv
      simp [go_sem, h2]
      refine wdraw [] 1 rfl (by kernel_rfl) (by kernel_rfl) ?_
      have h2n : (k != 0) = true := by simpa using h2'
      simp [go_sem, h2n, q, hv, q2, hcol]
      refine wcond_i (fun h4 => ?_) (fun h4 => ?_)
      · have h4 : ¬ k = ck := by simpa using h4
        rw [if_pos ⟨h2', h4⟩] at hinv
        simp [go_sem]
        exact ret _ _ hinv
      have h4 : k = ck := by simpa using h4
      rw [if_neg (fun w => w.2 h4)] at hinv
      simp [go_sem, ei]
      exact next_i (i + 1) ⟨by omega, ⟨q, hinv⟩, at_n 1 (by simp [go_sem]) rfl rfl (Nat.zero_le _) (args_lt_eq (by simp [go_sem, ei]) rfl)⟩
  · have q : ¬ i < row.length := by simpa using q
    have hie : i = row.length := by omega
    have e : row.drop i = [] := List.drop_eq_nil_of_le (by omega)
    rw [e] at hinv
    simp [go_sem]
    exact ret _ _ (by rw [← hinv]; cases List.drop i cols <;> rfl)

theorem regF_has (regs : List Int) (p : Int) : (regF regs).contains p = (decide (0 ≤ p ∧ p < 4) && regs.contains p) := by
  rw [Bool.eq_iff_iff, List.contains_iff_mem, Bool.and_eq_true, decide_eq_true_eq]
  unfold regF
  rw [List.mem_filter]
  constructor
  · rintro ⟨h1, h2⟩
    simp only [List.mem_cons, List.not_mem_nil, or_false] at h1
    exact ⟨by omega, h2⟩
  · rintro ⟨h1, h2⟩
    refine ⟨?_, h2⟩
    simp only [List.mem_cons, List.not_mem_nil, or_false]
    omega
/-- A table's range for a region, or why there is none. -/
def rgF (regs : List Int) (ts : List GTable) (j : Nat) (h : j < ts.length) (p : Int) : Int × Int := if rangeG regs ts j p h = -1 then (0, 19) else (rangeG regs ts j p h, 0)
theorem rgF_row {regs : List Int} {ts : List GTable} {j : Nat} (h : j < ts.length) (hp : placesOk ts) (h0 : ts[j].place = 0) (p : Int) (hc : (regF regs).contains p = false) : rgF regs ts j h p = (0, 19) := by
  unfold rgF
  rw [if_pos]
  rw [rangeG_law regs ts j p h hp, if_neg (by omega), if_neg (by rw [hc]; decide)]
theorem rangeG_in {regs : List Int} {ts : List GTable} {j : Nat} (h : j < ts.length) (hp : placesOk ts) (p : Int) (hc : ts[j].place = 0 → (regF regs).contains p = true) : rangeG regs ts j p h ≠ -1 := by
  have h1 := sumM_in regs (ts.take j)
  rw [rangeG_law regs ts j p h hp]
  by_cases h0 : ts[j].place = 0
  · rw [if_neg (by omega), if_pos (hc h0)]
    omega
  · rw [if_pos h0]
    omega
set_option maxHeartbeats 4000000 in
theorem refKeyRow_w (regs : List Int) (ts : List GTable) (j : Nat) (hj : j < ts.length) (t : GTable) (ht : ts[j] = t) (row : List GValue) (hr : row.length ≤ maxLen) (hL : mayT t.cols row = 0 → LightR row) (hn : ts.length ≤ 1000000) (hk : 0 ≤ t.key ∧ t.key < t.cols.length)
    (hrl : regs.length ≤ maxLen) (hpl : placesOk ts) :
    Pure Try.prog 8 [schV regs ts, .int .i64 j, .sl .ro (row.map GValue.row)] (keyV (keyR ts.length j t row (rgF regs ts j hj))) := by
  have hmay := refMayRow_w t row hr
  have hbound : ∀ v : GValue, v.ok → v.s.length ≤ 500 → _ := fun v h1 h2 => refBound_w (regs.map iRw) (ts.map GTable.row) j v (by rw [List.length_map]; show _ ≤ 1000000000; omega) h1 h2
  simp only [List.length_map] at hbound
  have hrange := fun p => refRange_w regs ts j p hrl hn hj
  have hhas := fun r => HasRegion_w regs (ts.map GTable.row) r hrl
  have hrow := fun p hc h0 => rgF_row (regs := regs) hj hpl h0 p hc
  have hin := fun p hc => rangeG_in (regs := regs) hj hpl p hc
  rw [ht] at hrow hin
  generalize hres : keyR ts.length j t row (rgF regs ts j hj) = res
  unfold keyR at hres
  obtain ⟨m, hm⟩ : ∃ m, mayT t.cols row = m := ⟨_, rfl⟩
  have hlen : m = 0 → row.length = t.cols.length := fun h => mayT_len (hm.trans h)
  rw [hm] at hmay hL hres
  obtain ⟨name, cols, key, place, region, zone⟩ := t
  simp only at hk hlen hres hrow hin
  obtain ⟨q, rfl⟩ : ∃ q : Nat, key = q := ⟨key.toNat, by omega⟩
  refine VCalls.introV 0 Try.func8 Try.ntmps8 Try.results8 rfl rfl (Nat.le_of_ble_eq_true rfl) fun c hc hb => ?_
  refine wVW_code ?_
  simp [go_sem, schV]
  refine wVC_pure (refIs_w (regs.map iRw) (ts.map GTable.row) j) Try.callB21 (args_eq (by simp) rfl) rfl ?_
  simp [go_sem, hj, ht]
  refine wVC_pure hmay Try.callB14 (args_eq (by simp [go_sem]) rfl) rfl ?_
  simp [go_sem]
  refine wcond_i (fun h => ?_) (fun h => ?_)
  · have h : m ≠ 0 := by simpa using h
    simp [go_sem]
    exact key_ret (by rw [← hres, if_pos h])
  have h : m = 0 := by simpa using h
  have hl := hlen h
  have hq : q < row.length := by omega
  have h0 : 0 < row.length := by omega
  have hLr := hL h
  obtain ⟨v, hv⟩ : ∃ v, row[q] = v := ⟨_, rfl⟩
  obtain ⟨v1, hv1⟩ : ∃ v, row[0] = v := ⟨_, rfl⟩
  have hvm : v ∈ row := hv ▸ List.getElem_mem hq
  have e1 : row.headD v0 = v1 := by
    rw [← hv1]
    cases row with
    | nil => simp at h0
    | cons a l => rfl
  have e2 : row.getD q v0 = v := by rw [List.getD_eq_getElem?_getD, List.getElem?_eq_getElem hq, hv]; rfl
  rw [if_neg (by omega), e1, Int.toNat_natCast, e2] at hres
  have hb2 := hbound v (hLr.ok v hvm) (hLr.s v hvm)
  simp [go_sem]
  refine wcond_i (fun hp => ?_) (fun hp => ?_)
  · have hp : place = 0 := by simpa using hp
    rw [if_pos hp] at hres
    have bad : (regF regs).contains (min (max v1.n (-1)) 4) = false → (0, [], 19) = res := fun hc => by
      rw [hrow _ hc hp, if_pos (by decide)] at hres
      exact hres
    simp [go_sem]
    refine wdraw [(18, 0)] 2 rfl (by kernel_rfl) (by kernel_rfl) ?_
    simp [go_sem, h0, hv1]
    by_cases c1 : v1.n < 0
    · simp [go_sem, c1]
      exact key_ret (bad (by rw [regF_has, decide_eq_false (by omega)]; rfl)).symm
    simp [go_sem, c1, h0, hv1]
    by_cases c2 : 4 ≤ v1.n
    · simp [go_sem, c2]
      exact key_ret (bad (by rw [regF_has, decide_eq_false (by omega)]; rfl)).symm
    have hc : (regF regs).contains v1.n = regs.contains v1.n := by rw [regF_has, decide_eq_true (by omega)]; rfl
    have hx : min (max v1.n (-1)) 4 = v1.n := by omega
    rw [hx] at hres bad
    simp [go_sem, c2, h0, hv1]
    refine wVD_pure (hhas v1.n) Try.callB22 (fun _ => args_no rfl) rfl ?_
    simp only [go_sem]
    by_cases c3 : regs.contains v1.n = true
    · have hi := hin v1.n (fun _ => by rw [hc]; exact c3)
      have hr1 := hrange v1.n
      rw [if_neg hi] at hr1
      unfold rgF at hres
      rw [if_neg hi, if_neg (by simp)] at hres
      rw [c3]
      simp [go_sem, h0, hv1]
      refine wVC_pure hr1 Try.callB23 (args_no rfl) rfl ?_
      simp [go_sem]
      refine wdraw [(8, 0)] 2 rfl (by kernel_rfl) (by kernel_rfl) ?_
      simp [go_sem, hq, hv]
      refine wVD_pure hb2 Try.callB12 (fun _ => args_no rfl) rfl ?_
      simp [go_sem]
      exact key_ret hres.symm
    · have c3 : regs.contains v1.n = false := by simpa using c3
      rw [c3]
      simp [go_sem]
      exact key_ret (bad (by rw [hc]; exact c3)).symm
  · have hp : ¬ place = 0 := by simpa using hp
    rw [if_neg hp] at hres
    have hi := hin 0 (fun w => absurd w hp)
    have hr1 := hrange 0
    rw [if_neg hi] at hr1
    unfold rgF at hres
    rw [if_neg hi, if_neg (by simp)] at hres
    simp [go_sem]
    refine wVC_pure hr1 Try.callB23 (args_no rfl) rfl ?_
    simp [go_sem]
    refine wdraw [(8, 0)] 2 rfl (by kernel_rfl) (by kernel_rfl) ?_
    simp [go_sem, hq, hv]
    refine wVD_pure hb2 Try.callB12 (fun _ => args_no rfl) rfl ?_
    simp [go_sem]
    exact key_ret hres.symm
end Go.Proofs.Ytkmechkafhblpaa.R
namespace Go.Proofs.Ytkmechkafhblpaa.R
open Go Go.Vx
set_option maxRecDepth 100000

theorem KeyNo_w (regs : List (List V)) (ts : List GTable) (t : Int) (row : List GValue) (h : isF ts.length t = false) :
    Pure Try.prog 7 [.agg [.sl .ro regs, .sl .ro (ts.map GTable.row)], .int .i64 t, .sl .ro (row.map GValue.row)] (keyV (0, [], 1)) := by
  have his := is_w regs (ts.map GTable.row) t
  rw [List.length_map, show (decide (0 ≤ t) && decide (t < ts.length)) = isF ts.length t from rfl, h] at his
  refine VCalls.intro 0 Try.func7 Try.ntmps7 Try.results7 rfl rfl (Nat.le_of_ble_eq_true rfl) fun c hc hb => wcode_of ?_
  simp [go_sem]
  refine wVC_pure his Try.callB19 (args_no rfl) rfl ?_
  simp [go_sem]
  exact key_ret rfl
theorem refKeyNo_w (regs : List (List V)) (ts : List GTable) (t : Int) (row : List GValue) (h : isF ts.length t = false) :
    Pure Try.prog 8 [.agg [.sl .ro regs, .sl .ro (ts.map GTable.row)], .int .i64 t, .sl .ro (row.map GValue.row)] (keyV (0, [], 1)) := by
  have his := refIs_w regs (ts.map GTable.row) t
  rw [List.length_map, show (decide (0 ≤ t) && decide (t < ts.length)) = isF ts.length t from rfl, h] at his
  refine VCalls.intro 0 Try.func8 Try.ntmps8 Try.results8 rfl rfl (Nat.le_of_ble_eq_true rfl) fun c hc hb => wcode_of ?_
  simp [go_sem]
  refine wVC_pure his Try.callB21 (args_no rfl) rfl ?_
  simp [go_sem]
  exact key_ret rfl

/-- A schema that is not too great and that the check lets pass. -/
def goodS (regs : List Int) (ts : List GTable) : Prop := lightP regs ts ∧ (walkF regs ts).2 = 0
theorem goodS_S : goodS [0, 0, 1, 1] tabsS := by
  refine ⟨⟨by decide, by decide, fun t ht => ?_⟩, by decide +kernel⟩
  unfold tabsS at ht
  simp only [List.mem_cons, List.not_mem_nil, or_false] at ht
  rcases ht with rfl | rfl | rfl <;> refine ⟨by decide, by decide, by decide, by decide, by decide, by decide⟩

theorem Keys_w (regs : List Int) (ts : List GTable) (t : Int) (row : List GValue) (hg : goodS regs ts) (hr : row.length ≤ maxLen) (hL : LightR row) :
    ∃ r, Pure Try.prog 7 [schV regs ts, .int .i64 t, .sl .ro (row.map GValue.row)] (keyV r) ∧ Pure Try.prog 8 [schV regs ts, .int .i64 t, .sl .ro (row.map GValue.row)] (keyV r) := by
  obtain ⟨⟨hl1, hl2, hl3⟩, hw⟩ := hg
  obtain ⟨hm, hpl⟩ := walkF_ok hw
  obtain ⟨hr1, hr2, hr3⟩ := mayRegs_in hm
  cases hi : isF ts.length t with
  | false => exact ⟨_, KeyNo_w _ ts t row hi, refKeyNo_w _ ts t row hi⟩
  | true =>
    obtain ⟨j, rfl, hj⟩ := isF_nat hi
    have htab : tabF regs ts[j] = 0 := by
      unfold walkF at hw
      rw [if_neg (by rw [hm]; decide)] at hw
      split at hw
      · cases hw
      · exact walkT_tabs _ _ _ hw _ (List.getElem_mem hj)
    have hk : 0 ≤ (ts[j]).key ∧ (ts[j]).key < (ts[j]).cols.length := by
      unfold tabF at htab
      repeat' split at htab
      all_goals first | omega | (exfalso; revert htab; decide) | skip
      all_goals omega
    refine ⟨_, KeyRow_w (regs.map iRw) ts j hj ts[j] rfl row hr (fun _ => hL) (by unfold maxB; omega) hk (rgF regs ts j hj) (fun p _ _ _ => ?_), refKeyRow_w regs ts j hj ts[j] rfl row hr (fun _ => hL) (by omega) hk (by unfold maxLen; omega) hpl⟩
    have := Range_w regs ts j p hr1 hr2 hr3 (by omega) hpl hj
    unfold rgF
    split
    · rename_i q
      rw [if_pos q] at this
      exact this
    · rename_i q
      rw [if_neg q] at this
      exact this

set_option maxHeartbeats 4000000 in
theorem Light_b (regs : List Int) (ts : List GTable) (hm : ts.length ≤ maxLen) : ∃ b : Bool, Pure Try.prog 17 [schV regs ts] (.bool b) ∧ (b = true → lightP regs ts) := by
  unfold maxLen at hm
  obtain ⟨b, hbl⟩ : ∃ b : Bool, b = true ↔ lightP regs ts := by
    by_cases h : lightP regs ts
    · exact ⟨true, by simp [h]⟩
    · exact ⟨false, by simp [h]⟩
  refine ⟨b, ?_, hbl.1⟩
  have no : ¬ lightP regs ts → ∀ σ : St, wret (some (.bool false)) 0 (fun r s => r = .bool b ∧ s = []) σ := fun h σ => by
    cases b with
    | true => exact absurd (hbl.1 rfl) h
    | false => exact wret_0 (argS_no rfl) ⟨rfl, rfl⟩
  have yes : lightP regs ts → ∀ σ : St, wret (some (.bool true)) 0 (fun r s => r = .bool b ∧ s = []) σ := fun h σ => by
    have e := hbl.2 h
    subst e
    exact wret_0 (argS_no rfl) ⟨rfl, rfl⟩
  refine VCalls.introV 0 Try.func17 Try.ntmps17 Try.results17 rfl rfl (Nat.le_of_ble_eq_true rfl) fun c hc hb => ?_
  refine wVW_code ?_
  simp [go_sem, schV]
  refine wgrd_i (fun q1 => ?_) (fun q1 => ?_)
  rotate_left
  · have q1 : ¬ regs.length ≤ 30 := by simp at q1; omega
    simp [go_sem, *]
    exact no (fun P => q1 P.1) _
  have q1' : regs.length ≤ 30 := by simp at q1; omega
  simp [go_sem, q1]
  refine wcond_i (fun q2 => ?_) (fun q2 => ?_)
  · have q2 : ¬ ts.length ≤ 10 := by simp at q2; omega
    simp [go_sem]
    exact no (fun P => q2 P.2.1) _
  have q2' : ts.length ≤ 10 := by simp at q2; omega
  simp [go_sem]
  refine wVW_while (S := Nat) [1, 3] (fun i => [.ptr 0 0, .int .i64 i]) (fun _ => [.box [.sl .ro (regs.map iRw), .sl .ro (ts.map GTable.row)]]) (fun i => ts.length - i)
    (fun i => i ≤ ts.length ∧ ∀ k (h : k < ts.length), k < i → lightT ts[k]) hc hb 0 ⟨Nat.zero_le _, fun k _ h => absurd h (Nat.not_lt_zero _)⟩ ?_ ?_
  · exact at_n 1 (by simp) rfl (by simp [ltOb, ltC, ltK]) (Nat.zero_le _) (args_lt_eq (by simp [go_sem]) rfl)
  rintro i ⟨hi, hL⟩
  by_cases hq : i < ts.length
  rotate_left
  · refine wVW_code ?_
    simp [go_sem, hq]
    refine yes ⟨q1', q2', fun t ht => ?_⟩ _
    obtain ⟨k, hk, rfl⟩ := List.mem_iff_getElem.1 ht
    exact hL k hk (by omega)
  obtain ⟨t, htt⟩ : ∃ t, ts[i] = t := ⟨_, rfl⟩
  have ei := i64_inc hq (by omega)
  refine wVW_code ?_
  simp [go_sem, hq, htt]
  by_cases z0 : t.name.length ≤ 100
  rotate_left
  · have d : decide ((100 : Int) < t.name.length) = true := by simp; omega
    simp [go_sem, d]
    exact no (fun P => by have q := P.2.2 t (htt ▸ List.getElem_mem hq); unfold lightT at q; omega) _
  have d0 : decide ((100 : Int) < t.name.length) = false := by simp; omega
  simp [go_sem, d0]
  by_cases z1 : t.cols.length ≤ 12
  rotate_left
  · have d : decide ((12 : Int) < t.cols.length) = true := by simp; omega
    simp [go_sem, d]
    exact no (fun P => by have q := P.2.2 t (htt ▸ List.getElem_mem hq); unfold lightT at q; omega) _
  have d1 : decide ((12 : Int) < t.cols.length) = false := by simp; omega
  simp [go_sem, d1]
  by_cases z2 : t.zone.voters.length ≤ 30
  rotate_left
  · have d : decide ((30 : Int) < t.zone.voters.length) = true := by simp; omega
    simp [go_sem, d]
    exact no (fun P => by have q := P.2.2 t (htt ▸ List.getElem_mem hq); unfold lightT at q; omega) _
  have d2 : decide ((30 : Int) < t.zone.voters.length) = false := by simp; omega
  simp [go_sem, d2]
  by_cases z3 : t.zone.witnesses.length ≤ 30
  rotate_left
  · have d : decide ((30 : Int) < t.zone.witnesses.length) = true := by simp; omega
    simp [go_sem, d]
    exact no (fun P => by have q := P.2.2 t (htt ▸ List.getElem_mem hq); unfold lightT at q; omega) _
  have d3 : decide ((30 : Int) < t.zone.witnesses.length) = false := by simp; omega
  simp [go_sem, d3]
  by_cases z4 : t.zone.learners.length ≤ 30
  rotate_left
  · have d : decide ((30 : Int) < t.zone.learners.length) = true := by simp; omega
    simp [go_sem, d]
    exact no (fun P => by have q := P.2.2 t (htt ▸ List.getElem_mem hq); unfold lightT at q; omega) _
  have d4 : decide ((30 : Int) < t.zone.learners.length) = false := by simp; omega
  simp [go_sem, d4]
  refine wVW_while (S := Nat) [1, 3, 4, 5] (fun k => [.ptr 0 0, .int .i64 i, .ptr 1 0, .int .i64 k]) (fun _ => [.box [.sl .ro (regs.map iRw), .sl .ro (ts.map GTable.row)], .box t.row]) (fun k => t.cols.length - k)
    (fun k => k ≤ t.cols.length ∧ ∀ j (h : j < t.cols.length), j < k → t.cols[j].name.length ≤ 100) hc hb 0 ⟨Nat.zero_le _, fun k _ h => absurd h (Nat.not_lt_zero _)⟩ ?_ ?_
  · exact at_n 2 (by simp [go_sem]) rfl (by simp [ltOb, ltC, ltK, GTable.row]) (Nat.zero_le _) (args_lt_eq (by simp [go_sem]) rfl)
  rintro k ⟨hk, hC⟩
  by_cases hkq : k < t.cols.length
  rotate_left
  · refine wVW_code ?_
    simp [go_sem, hkq, ei]
    refine next_i (i + 1) ⟨by omega, ⟨by omega, fun j hj hji => ?_⟩, at_n 1 (by simp) rfl (by simp [ltOb, ltC, ltK]) (Nat.zero_le _) (args_lt_eq (by simp [go_sem]) rfl)⟩
    rcases Nat.lt_or_ge j i with h | h
    · exact hL j hj h
    · have : j = i := by omega
      subst this
      rw [htt]
      refine ⟨z0, z1, z2, z3, z4, fun c hc => ?_⟩
      obtain ⟨y, hy, rfl⟩ := List.mem_iff_getElem.1 hc
      exact hC y hy (by omega)
  have ek := i64_inc hkq (by omega)
  obtain ⟨⟨cn, ck, cb⟩, hcc⟩ : ∃ c, t.cols[k] = c := ⟨_, rfl⟩
  refine wVW_code ?_
  simp [go_sem, hkq, hcc]
  refine wcond_i (fun w => ?_) (fun w => ?_)
  · have w : ¬ cn.length ≤ 100 := by simp at w; omega
    simp [go_sem]
    exact no (fun P => w ((P.2.2 t (htt ▸ List.getElem_mem hq)).2.2.2.2.2 ⟨cn, ck, cb⟩ (hcc ▸ List.getElem_mem hkq))) _
  have w' : cn.length ≤ 100 := by simp at w; omega
  simp [go_sem, ek]
  refine next_i (k + 1) ⟨by omega, ⟨by omega, fun j hj hji => ?_⟩, at_n 2 (by simp [go_sem]) rfl (by simp [ltOb, ltC, ltK]) (Nat.zero_le _) (args_lt_eq (by simp [go_sem]) rfl)⟩
  rcases Nat.lt_or_ge j k with h | h
  · exact hC j hj h
  · have : j = k := by omega
    subst this
    rw [hcc]
    exact w'
def PickR (r : V) : Prop := ∃ regs ts b, r = .tup [schV regs ts, .bool b] ∧ (b = true → goodS regs ts)
theorem pick_w (regs : List Int) (ts : List GTable) (own : Bool) (hm : ts.length ≤ maxLen) :
    VCalls Try.prog 5 [schV regs ts, .bool own] [] (fun r s => PickR r ∧ s = []) := by
  obtain ⟨b, hlt, hbl⟩ := Light_b regs ts hm
  refine VCalls.introV 0 Try.func5 Try.ntmps5 Try.results5 rfl rfl (Nat.le_of_ble_eq_true rfl) fun c hc hb => ?_
  refine wVW_code ?_
  cases own with
  | false =>
    simp [go_sem, schV]
    refine wVC_pure Schema_w Try.callB15 (args_no rfl) rfl ?_
    simp [go_sem, schS]
    exact wret_0 (r := .tup [schV [0, 0, 1, 1] tabsS, .bool true]) (argS_tup ⟨argA_agg ⟨argC_ro, argC_ro, trivial⟩, argA_no rfl, trivial⟩) ⟨⟨[0, 0, 1, 1], tabsS, true, rfl, fun _ => goodS_S⟩, rfl⟩
  | true =>
    simp [go_sem, schV]
    refine wdraw [(2, 0), (5, 0)] 2 rfl (by kernel_rfl) (by kernel_rfl) ?_
    simp [go_sem]
    refine wVD_pure hlt Try.callB17 (fun _ => args_eq (by simp [schV]) rfl) rfl ?_
    refine (Bool.eq_false_or_eq_true b).elim (fun w => ?_) (fun w => ?_)
    rotate_left
    · simp [go_sem, w]
      exact wret_0 (r := .tup [schV regs ts, .bool false]) (argS_tup ⟨argA_agg ⟨argC_ro, argC_ro, trivial⟩, argA_no rfl, trivial⟩) ⟨⟨regs, ts, _, rfl, fun w => by cases w⟩, rfl⟩
    · have hP := hbl w
      simp [go_sem, w]
      refine wVD_pure (refCheck_w regs ts (lightP_S hP)) Try.callB18 (fun _ => args_eq (by simp [schV]) rfl) rfl ?_
      simp [go_sem]
      exact wret_0 (r := .tup [schV regs ts, .bool ((walkF regs ts).2 == 0)]) (argS_tup ⟨argA_agg ⟨argC_ro, argC_ro, trivial⟩, argA_no rfl, trivial⟩) ⟨⟨regs, ts, _, rfl, fun w => ⟨hP, by simpa using w⟩⟩, rfl⟩
theorem begunK_w : Pure Try.prog 4 [] (.bool true) := pure_run names_ok orders_ok marks 10000 (by kernel_rfl)
set_option maxHeartbeats 4000000 in
theorem rowsKeys_w (x : GSchema) (own : Bool) (table : Int) (row : List GValue) (v : GValue) (hx : x.ok) (hr : row.length ≤ maxLen ∧ ∀ v ∈ row, v.ok) (hv : v.ok) :
    Pure Try.prog 3 [.agg x.row, .bool own, .int .i64 table, .sl .ro (row.map GValue.row), .agg v.row] (.bool true) := by
  obtain ⟨regs0, ts0⟩ := x
  have hpk := pick_w regs0 ts0 own hx.tables.1
  have hlr := LightRow_w row hr.2 hr.1
  have yes : ∀ σ : St, wret (some (.bool true)) 0 (fun r s => r = .bool true ∧ s = []) σ := fun σ => wret_0 (argS_no rfl) ⟨rfl, rfl⟩
  refine VCalls.introV 0 Try.func3 Try.ntmps3 Try.results3 rfl rfl (Nat.le_of_ble_eq_true rfl) fun c hc hb => ?_
  refine wVW_code ?_
  simp [go_sem]
  refine wVC_pure begunK_w Try.callB4 (args_no rfl) rfl ?_
  simp [go_sem]
  refine wVC_rel hpk Try.callB5 (args_eq (by simp [schV]) rfl) (by rintro r ⟨_, _, _, rfl, _⟩; rfl) ?_
  rintro r ⟨regs, ts, b, rfl, hb1⟩
  simp [go_sem, schV]
  refine (Bool.eq_false_or_eq_true b).elim (fun w => ?_) (fun w => ?_)
  rotate_left
  · simp [go_sem, w]
    exact yes _
  have hg := hb1 w
  simp [go_sem, w]
  refine wVC_rel hlr Try.callB6 (args_no rfl) (by rintro r ⟨b, rfl, _⟩; rfl) ?_
  rintro r ⟨d, rfl, hbl⟩
  refine (Bool.eq_false_or_eq_true d).elim (fun w3 => ?_) (fun w3 => ?_)
  rotate_left
  · simp [go_sem, w3]
    exact yes _
  have hL := hbl w3
  by_cases w4 : v.s.length ≤ 500
  rotate_left
  · have e : decide ((500 : Int) < v.s.length) = true := by simp; omega
    simp [go_sem, w3, e]
    exact yes _
  have e4 : decide ((500 : Int) < v.s.length) = false := by simp; omega
  simp [go_sem, w3, e4]
  have hts : ts.length ≤ 10 := hg.1.2.1
  obtain ⟨⟨ka, ks, ke⟩, hk1, hk2⟩ := Keys_w regs ts table row hg hr.1 hL
  have ha1 := All_w (regs.map iRw) (ts.map GTable.row) table (by simp [maxB]; omega)
  have ha2 := refAll_w (regs.map iRw) (ts.map GTable.row) table (by simp [maxB]; omega)
  have hb1 := Bound_w (regs.map iRw) (ts.map GTable.row) table v (by simp [maxB]; omega) hv w4
  have hb2 := refBound_w (regs.map iRw) (ts.map GTable.row) table v (by simp [maxB]; omega) hv w4
  generalize allF _ table = al at ha1 ha2
  generalize boundF _ table v = bo at hb1 hb2
  obtain ⟨a1, a2⟩ := al
  refine wVC_pure hk1 Try.callB7 (args_eq (by simp [schV]) rfl) rfl ?_
  simp [go_sem, keyV]
  refine wVC_pure hk2 Try.callB8 (args_eq (by simp [schV]) rfl) rfl ?_
  simp [go_sem, keyV]
  refine wVC_pure ha1 Try.callB9 (args_no rfl) rfl ?_
  simp [go_sem]
  refine wVC_pure ha2 Try.callB10 (args_no rfl) rfl ?_
  simp [go_sem]
  refine wdraw [(27, 0), (31, 0)] 2 rfl (by kernel_rfl) (by kernel_rfl) ?_
  simp [go_sem]
  refine wVD_pure hb1 Try.callB11 (fun _ => args_no rfl) rfl ?_
  simp [go_sem]
  refine wVD_pure hb2 Try.callB12 (fun _ => args_no rfl) rfl ?_
  simp [go_sem]
  refine wdraw [(16, 0), (23, 0)] 2 rfl (by kernel_rfl) (by kernel_rfl) ?_
  simp [go_sem]
  by_cases t1 : table < 0
  · simp [go_sem, t1]
    exact yes _
  by_cases t2 : (ts.length : Int) ≤ table
  · simp [go_sem, t1, t2]
    exact yes _
  obtain ⟨j, rfl⟩ : ∃ j : Nat, table = j := ⟨table.toNat, by omega⟩
  have hj : j < ts.length := by omega
  obtain ⟨t, htt⟩ : ∃ t, ts[j] = t := ⟨_, rfl⟩
  simp [go_sem, t1, t2, hj, htt]
  refine wVD_pure (MayRow_w t row hr.1) Try.callB13 (fun _ => args_eq (by simp [go_sem]) rfl) rfl ?_
  simp [go_sem, hj, htt]
  refine wVD_pure (refMayRow_w t row hr.1) Try.callB14 (fun _ => args_eq (by simp [go_sem]) rfl) rfl ?_
  simp [go_sem]
  exact yes _
end Go.Proofs.Ytkmechkafhblpaa.R
