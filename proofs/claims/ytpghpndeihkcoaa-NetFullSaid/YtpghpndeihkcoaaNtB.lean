/-
  The statements' own functions walked (see NtA).
  Conditions: as each theorem states them.
-/
import Derived.Test.YtpghpndeihkcoaaNtA
namespace Go.Proofs.Ytpghpndeihkcoaa
open Go Go.Vx
set_option maxRecDepth 100000

theorem begun_w : Pure Try.prog 6 [] (.bool true) := by
  refine VCalls.intro 0 Try.func6 Try.ntmps6 Try.results6 rfl rfl (Nat.le_of_ble_eq_true rfl) fun c hc hb => wcode_of ?_
  simp [go_sem]
  refine wVC_new0 new_w Try.callB7 trivial ?_
  rintro r s ⟨rfl, rfl⟩
  simp [go_sem]
  refine wVC_pre 2 (send_w [] 0 0 ⟨1, 3, 0⟩ (by decide) (by decide)) Try.callB10 rfl rfl (netS_ok _ _ _) ⟨argS_lt rfl, argS_dem rfl, trivial⟩ (by rintro r s ⟨rfl, k', rfl⟩; exact ⟨rfl, netS_ok _ _ _, rfl⟩) ?_
  rintro r s ⟨rfl, k1, rfl⟩
  simp [go_sem]
  refine wVC_pre 2 (twice_w [⟨1, 3, 0⟩] k1 0 1 (by decide) (by decide)) Try.callB14 rfl rfl (netS_ok _ _ _) (args_ltn rfl) (by rintro r s ⟨rfl, k', rfl⟩; exact ⟨rfl, netS_ok _ _ _, rfl⟩) ?_
  rintro r s ⟨rfl, k2, rfl⟩
  simp [go_sem]
  refine wVC_pre 2 (take_w [⟨1, 3, 0⟩, ⟨1, 3, 0⟩] k2 0 1 (by decide) (by decide)) Try.callB13 rfl rfl (netS_ok _ _ _) (args_ltn rfl) (by rintro r s ⟨rfl, rfl⟩; exact ⟨rfl, netS_ok _ _ _, rfl⟩) ?_
  rintro r s ⟨rfl, rfl⟩
  simp [go_sem, pushE, pushF]
  refine wVC_pre 2 (len_w [⟨1, 3, 0⟩] (k2 + 1) 1) Try.callB15 rfl rfl (netS_ok _ _ _) (args_ltn rfl) (by rintro r s ⟨rfl, rfl⟩; exact ⟨rfl, netS_ok _ _ _, rfl⟩) ?_
  rintro r s ⟨rfl, rfl⟩
  simp [go_sem]
  refine wVC_pre 2 (sent_w [⟨1, 3, 0⟩] (k2 + 1) 1) Try.callB16 rfl rfl (netS_ok _ _ _) (args_ltn rfl) (by rintro r s ⟨rfl, rfl⟩; exact ⟨rfl, netS_ok _ _ _, rfl⟩) ?_
  rintro r s ⟨rfl, rfl⟩
  simp [go_sem]
  exact wret_0 (argS_no rfl) ⟨rfl, rfl⟩

def mk (q : Int) : Pk3 := ⟨0, 0, q⟩
theorem pushE_lt {ps : List Pk3} (h : ps.length < 512) : pushE ps = 0 := if_pos h
theorem pushF_lt {ps : List Pk3} {q : Pk3} (h : ps.length < 512) : pushF ps q = ps ++ [q] := if_pos h
theorem send_ok (ps : List Pk3) (k : Nat) (sent : Nat) (q : Pk3) (hp : ps.length < 512) (hs : sent ≤ 1000000) : VCalls Try.prog 10 [.ptr 0 0, .agg (prow q)] (netS ps k sent) fun r s => r = .int .i64 0 ∧ ∃ k', s = netS (ps ++ [q]) k' (sent + 1 : Nat) :=
  (send_w ps k sent q (by omega) hs).mono fun r s ⟨h1, k', h2⟩ => ⟨by rw [h1, pushE_lt hp], k', by rw [h2, pushF_lt hp]⟩
theorem twice_ok (ps ps' : List Pk3) (k i : Nat) (sent : Int) (hi : i < ps.length) (hp : ps.length < 512) (hq : ps ++ [ps.getD i pz] = ps') : VCalls Try.prog 14 [.ptr 0 0, .int .i64 i] (netS ps k sent) fun r s => r = .int .i64 0 ∧ ∃ k', s = netS ps' k' sent :=
  (twice_w ps k i sent hi (by omega)).mono fun r s ⟨h1, k', h2⟩ => ⟨by rw [h1, pushE_lt hp], k', by rw [h2, pushF_lt hp, hq]⟩
theorem take_ok (ps ps' : List Pk3) (q : Pk3) (k : Nat) (sent : Int) (h : ps = q :: ps') (hp : ps.length ≤ 512) : VCalls Try.prog 13 [.ptr 0 0, .int .i64 0] (netS ps k sent) fun r s => r = .tup [.agg (prow q), .int .i64 0] ∧ s = netS ps' (k + 1) sent := by
  subst h
  exact (take_w (q :: ps') k 0 sent (by simp) hp).mono fun r s ⟨h1, h2⟩ => ⟨h1, h2⟩
theorem app_ok (n m s : Nat) : ([.app m s] : St).all (ltOb n) = true := rfl

set_option maxHeartbeats 1000000 in
theorem netOrder_w (seqs twice : List Int) (ht : ∀ t ∈ twice, 0 ≤ t ∧ t ≤ 255) : Pure Try.prog 5 [.sl .ro (seqs.map intRow), .sl .ro (twice.map fun n => [V.int .u8 n])] (.bool true) := by
  refine VCalls.intro 0 Try.func5 Try.ntmps5 Try.results5 rfl rfl (Nat.le_of_ble_eq_true rfl) fun c hc hb => wcode_of ?_
  have yes : ∀ σ : St, wret (some (.bool true)) 0 (fun r s => r = .bool true ∧ s = []) σ := fun σ => wret_0 (argS_no rfl) ⟨rfl, rfl⟩
  simp [go_sem]
  refine wVC_pure begun_w Try.callB6 (args_no rfl) rfl ?_
  simp [go_sem]
  refine (Bool.eq_false_or_eq_true (decide ((60 : Int) < seqs.length))).elim (fun h1 => ?_) (fun h1 => ?_)
  · simp [go_sem, h1]
    exact yes _
  refine (Bool.eq_false_or_eq_true (decide ((20 : Int) < twice.length))).elim (fun h2 => ?_) (fun h2 => ?_)
  · simp [go_sem, h1, h2]
    exact yes _
  simp [go_sem, h1, h2]
  have hl1 : seqs.length ≤ 60 := by simp at h1; omega
  have hl2 : twice.length ≤ 20 := by simp at h2; omega
  refine wVC_new0 new_w Try.callB7 trivial ?_
  rintro r s ⟨rfl, rfl⟩
  simp [go_sem, netS]
  refine wneed_i ⟨by omega, ⟨fun r hr => (by simp at hr), intRow_uni seqs⟩⟩ ?_
  simp [go_sem]
  have sok : ∀ (ps : List Pk3) (k : Nat) (z : Int) (n : Nat), (netS ps k z ++ ([.app n 1] : St)).all (ltOb 3) = true := fun ps k z n => by
    rw [List.all_append, netS_okn 3 (by omega), app_ok]; rfl
  refine wVW_while (S := Nat × Nat) [0, 1, 5, 6, 7] (fun u => [.sl .ro (seqs.map intRow), .sl .ro (twice.map fun n => [V.int .u8 n]), .ptr 0 0, .sl (.app 2) (seqs.map intRow), .int .i64 u.1]) (fun u => netS ((seqs.take u.1).map mk) u.2 u.1 ++ ([.app seqs.length 1] : St)) (fun u => seqs.length - u.1)
    (fun u => u.1 ≤ seqs.length) hc hb (0, 0) (Nat.zero_le _) ?_ ?_
  · exact at_n 3 rfl rfl (sok _ _ _ _) (Nat.zero_le _) (args_lt_eq (by simp [go_sem]) rfl)
  rintro ⟨i, k⟩ hi
  simp only at hi
  refine wVW_code ?_
  simp [go_sem]
  refine wcond_i (fun h => ?_) (fun h => ?_)
  · have h : i < seqs.length := by simpa using h
    obtain ⟨q, hq⟩ : ∃ q, seqs[i] = q := ⟨_, rfl⟩
    simp [go_sem, h, hq]
    have hlen : ((seqs.take i).map mk).length = i := by simp; omega
    refine wVC_pre 2 (send_ok ((seqs.take i).map mk) k i (mk q) (by omega) (by omega)) Try.callB10 (by simp [netS]) rfl (netS_ok _ _ _) ⟨argS_lt rfl, argS_dem rfl, trivial⟩ (by rintro r s ⟨rfl, k', rfl⟩; exact ⟨rfl, netS_ok _ _ _, rfl⟩) ?_
    rintro r s ⟨rfl, k', rfl⟩
    simp [go_sem, i64_inc h (by omega)]
    refine next_i (i + 1, k') ⟨by simp only; omega, h, at_n 3 ?_ rfl (sok _ _ _ _) (Nat.zero_le _) (args_lt_eq (by simp [go_sem]) rfl)⟩
    rw [List.take_succ_eq_append_getElem h, hq]
    simp [netS]
  have h : seqs.length ≤ i := by simpa using h
  have he : i = seqs.length := by omega
  subst he
  simp [go_sem]
  refine wVW_while (S := Nat × Nat × List Int) [0, 1, 5, 6, 8] (fun u => [.sl .ro (seqs.map intRow), .sl .ro (twice.map fun n => [V.int .u8 n]), .ptr 0 0, .sl (.app 2) (u.2.2.map intRow), .int .i64 u.1]) (fun u => netS (u.2.2.map mk) u.2.1 seqs.length ++ ([.app u.2.2.length 1] : St)) (fun u => twice.length - u.1)
    (fun u => u.1 ≤ twice.length ∧ u.2.2.length ≤ 60 + u.1) hc hb (0, k, seqs) ⟨Nat.zero_le _, by simp only; omega⟩ ?_ ?_
  · exact at_n 3 (by simp [netS]; rw [List.take_of_length_le (by simp)]) rfl (sok _ _ _ _) (Nat.zero_le _) (args_lt_eq (by simp [go_sem]) rfl)
  rintro ⟨j, k2, want⟩ ⟨hj, hw⟩
  simp only at hj hw
  refine wVW_code ?_
  simp [go_sem]
  by_cases hcont : j < twice.length ∧ 0 < want.length
  · obtain ⟨hj1, hw1⟩ := hcont
    obtain ⟨t, htq⟩ : ∃ t, twice[j] = t := ⟨_, rfl⟩
    have htr : 0 ≤ t ∧ t ≤ 255 := ht t (htq ▸ List.getElem_mem hj1)
    have e1 : IntKind.i64.wrap t = t := i64_id (by omega) (by omega)
    have hne : ¬ want = [] := fun q => by subst q; simp at hw1
    obtain ⟨m, hm⟩ : ∃ m : Nat, t.tmod (want.length : Int) = (m : Int) ∧ m < want.length := by
      refine ⟨(t.tmod want.length).toNat, ?_, ?_⟩
      · rw [Int.toNat_of_nonneg (Int.tmod_nonneg _ htr.1)]
      · have := Int.tmod_lt_of_pos t (show (0 : Int) < want.length by omega)
        have := Int.tmod_nonneg (want.length : Int) htr.1
        omega
    obtain ⟨hm, hml⟩ := hm
    obtain ⟨q, hq⟩ : ∃ q, want[m] = q := ⟨_, rfl⟩
    have hget : (want.map mk).getD m pz = mk q := by rw [List.getD_eq_getElem?_getD, List.getElem?_map, List.getElem?_eq_getElem hml, hq]; rfl
    simp [go_sem, hj1, hw1, htq, e1]
    refine wneed_i hne ?_
    simp [go_sem, hm]
    refine wVC_pre 2 (twice_ok (want.map mk) ((want ++ [q]).map mk) k2 m seqs.length (by simpa using hml) (by simp; omega) (by rw [hget]; simp)) Try.callB14 (by simp [netS]) rfl (netS_ok _ _ _) (args_ltn rfl) (by rintro r s ⟨rfl, k', rfl⟩; exact ⟨rfl, netS_ok _ _ _, rfl⟩) ?_
    rintro r s ⟨rfl, k', rfl⟩
    simp [go_sem, hml, hq, netS]
    refine wneed_i ⟨by omega, uni_one rfl⟩ ?_
    simp [go_sem, i64_inc hj1 (by omega)]
    refine next_i (j + 1, k', want ++ [q]) ⟨by simp only; omega, ⟨hj1, by simp; omega⟩, at_n 3 (by simp [netS, prow]) rfl (sok _ _ _ _) (Nat.zero_le _) (args_lt_eq (by simp [go_sem]) rfl)⟩
  have hw80 : want.length ≤ 80 := by omega
  refine (Bool.eq_false_or_eq_true (decide (j < twice.length))).elim (fun h3 => ?_) (fun h3 => ?_)
  · have h4 : want = [] := List.eq_nil_of_length_eq_zero (by have : ¬ 0 < want.length := fun q => hcont ⟨by simpa using h3, q⟩
                                                             omega)
    simp [go_sem, h3, show ¬ 0 < want.length by rw [h4]; simp]
    refine wVW_while (S := Nat × Nat) [0, 5, 6, 10] (fun u => [.sl .ro (seqs.map intRow), .ptr 0 0, .sl (.app 2) (want.map intRow), .int .i64 u.1]) (fun u => netS ((want.drop u.1).map mk) u.2 seqs.length ++ ([.app want.length 1] : St)) (fun u => want.length - u.1)
      (fun u => u.1 ≤ want.length) hc hb (0, k2) (Nat.zero_le _) ?_ ?_
    · exact at_n 3 (by simp [netS]) rfl (sok _ _ _ _) (Nat.zero_le _) (args_lt_eq (by simp [go_sem]) rfl)
    rintro ⟨i, k3⟩ hi3
    simp only at hi3
    refine wVW_code ?_
    simp [go_sem]
    refine wcond_i (fun h => ?_) (fun h => ?_)
    · have h : i < want.length := by simpa using h
      obtain ⟨q, hq⟩ : ∃ q, want[i] = q := ⟨_, rfl⟩
      simp [go_sem]
      refine wVC_pre 2 (take_ok ((want.drop i).map mk) ((want.drop (i + 1)).map mk) (mk q) k3 seqs.length (by rw [List.drop_eq_getElem_cons h, hq]; rfl) (by simp; omega)) Try.callB13 (by simp [netS]) rfl (netS_ok _ _ _) (args_ltn rfl) (by rintro r s ⟨rfl, rfl⟩; exact ⟨rfl, netS_ok _ _ _, rfl⟩) ?_
      rintro r s ⟨rfl, rfl⟩
      simp [go_sem, netS]
      refine wdraw [] 4 rfl (by kernel_rfl) (by kernel_rfl) ?_
      simp [go_sem, h, hq, i64_inc h (by omega), mk]
      exact next_i (i + 1, k3 + 1) ⟨by simp only; omega, h, at_n 3 (by simp [netS]) rfl (sok _ _ _ _) (Nat.zero_le _) (args_lt_eq (by simp [go_sem]) rfl)⟩
    · have h : want.length ≤ i := by simpa using h
      have hd : (want.map mk).drop i = [] := List.drop_of_length_le (by simpa using h)
      simp [go_sem, hd]
      refine wVC_pre 2 (takeNo_w [] k3 0 seqs.length (.inr (by simp))) Try.callB13 rfl rfl (netS_ok _ _ _) (args_ltn rfl) (by rintro r s ⟨rfl, rfl⟩; exact ⟨rfl, netS_ok _ _ _, rfl⟩) ?_
      rintro r s ⟨rfl, rfl⟩
      simp [go_sem]
      refine wVC_pre 2 (len_w [] k3 seqs.length) Try.callB15 rfl rfl (netS_ok _ _ _) (args_ltn rfl) (by rintro r s ⟨rfl, rfl⟩; exact ⟨rfl, netS_ok _ _ _, rfl⟩) ?_
      rintro r s ⟨rfl, rfl⟩
      simp [go_sem]
      refine wVC_pre 2 (sent_w [] k3 seqs.length) Try.callB16 rfl rfl (netS_ok _ _ _) (args_ltn rfl) (by rintro r s ⟨rfl, rfl⟩; exact ⟨rfl, netS_ok _ _ _, rfl⟩) ?_
      rintro r s ⟨rfl, rfl⟩
      simp [go_sem]
      exact yes _
  · simp [go_sem, h3]
    refine wVW_while (S := Nat × Nat) [0, 5, 6, 10] (fun u => [.sl .ro (seqs.map intRow), .ptr 0 0, .sl (.app 2) (want.map intRow), .int .i64 u.1]) (fun u => netS ((want.drop u.1).map mk) u.2 seqs.length ++ ([.app want.length 1] : St)) (fun u => want.length - u.1)
      (fun u => u.1 ≤ want.length) hc hb (0, k2) (Nat.zero_le _) ?_ ?_
    · exact at_n 3 (by simp [netS]) rfl (sok _ _ _ _) (Nat.zero_le _) (args_lt_eq (by simp [go_sem]) rfl)
    rintro ⟨i, k3⟩ hi3
    simp only at hi3
    refine wVW_code ?_
    simp [go_sem]
    refine wcond_i (fun h => ?_) (fun h => ?_)
    · have h : i < want.length := by simpa using h
      obtain ⟨q, hq⟩ : ∃ q, want[i] = q := ⟨_, rfl⟩
      simp [go_sem]
      refine wVC_pre 2 (take_ok ((want.drop i).map mk) ((want.drop (i + 1)).map mk) (mk q) k3 seqs.length (by rw [List.drop_eq_getElem_cons h, hq]; rfl) (by simp; omega)) Try.callB13 (by simp [netS]) rfl (netS_ok _ _ _) (args_ltn rfl) (by rintro r s ⟨rfl, rfl⟩; exact ⟨rfl, netS_ok _ _ _, rfl⟩) ?_
      rintro r s ⟨rfl, rfl⟩
      simp [go_sem, netS]
      refine wdraw [] 4 rfl (by kernel_rfl) (by kernel_rfl) ?_
      simp [go_sem, h, hq, i64_inc h (by omega), mk]
      exact next_i (i + 1, k3 + 1) ⟨by simp only; omega, h, at_n 3 (by simp [netS]) rfl (sok _ _ _ _) (Nat.zero_le _) (args_lt_eq (by simp [go_sem]) rfl)⟩
    · have h : want.length ≤ i := by simpa using h
      have hd : (want.map mk).drop i = [] := List.drop_of_length_le (by simpa using h)
      simp [go_sem, hd]
      refine wVC_pre 2 (takeNo_w [] k3 0 seqs.length (.inr (by simp))) Try.callB13 rfl rfl (netS_ok _ _ _) (args_ltn rfl) (by rintro r s ⟨rfl, rfl⟩; exact ⟨rfl, netS_ok _ _ _, rfl⟩) ?_
      rintro r s ⟨rfl, rfl⟩
      simp [go_sem]
      refine wVC_pre 2 (len_w [] k3 seqs.length) Try.callB15 rfl rfl (netS_ok _ _ _) (args_ltn rfl) (by rintro r s ⟨rfl, rfl⟩; exact ⟨rfl, netS_ok _ _ _, rfl⟩) ?_
      rintro r s ⟨rfl, rfl⟩
      simp [go_sem]
      refine wVC_pre 2 (sent_w [] k3 seqs.length) Try.callB16 rfl rfl (netS_ok _ _ _) (args_ltn rfl) (by rintro r s ⟨rfl, rfl⟩; exact ⟨rfl, netS_ok _ _ _, rfl⟩) ?_
      rintro r s ⟨rfl, rfl⟩
      simp [go_sem]
      exact yes _
end Go.Proofs.Ytpghpndeihkcoaa
