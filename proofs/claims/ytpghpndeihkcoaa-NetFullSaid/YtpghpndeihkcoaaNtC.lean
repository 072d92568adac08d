/-
  NetFull's own function walked (see NtA).
  Conditions: as each theorem states them.
-/
import Derived.Test.YtpghpndeihkcoaaNtB
namespace Go.Proofs.Ytpghpndeihkcoaa
open Go Go.Vx
set_option maxRecDepth 100000

/-- What is there when so many were sent, one behind the other. -/
def upto (i : Nat) : List Pk3 := (List.range (min i 512)).map fun (j : Nat) => mk (j : Int)
theorem upto_len (i : Nat) : (upto i).length = min i 512 := by simp [upto]
theorem upto_succ {i : Nat} (h : i < 512) : upto i ++ [mk i] = upto (i + 1) := by
  unfold upto
  rw [show min i 512 = i by omega, show min (i + 1) 512 = i + 1 by omega, List.range_succ]
  simp
theorem upto_full {i : Nat} (h : 512 ≤ i) : upto i = upto (i + 1) := by
  unfold upto
  rw [show min i 512 = 512 by omega, show min (i + 1) 512 = 512 by omega]
theorem upto_send (i k : Nat) (hi : i ≤ 1000) : VCalls Try.prog 10 [.ptr 0 0, .agg (prow (mk i))] (netS (upto i) k i) fun r s => r = .int .i64 (if i < 512 then 0 else 8) ∧ ∃ k', s = netS (upto (i + 1)) k' (i + 1 : Nat) :=
  (send_w (upto i) k i (mk i) (by rw [upto_len]; omega) (by omega)).mono fun r s ⟨h1, k', h2⟩ => by
    by_cases h : i < 512
    · exact ⟨by rw [h1, pushE_lt (by rw [upto_len]; omega), if_pos h], k', by rw [h2, pushF_lt (by rw [upto_len]; omega), upto_succ h]⟩
    · refine ⟨by rw [h1, if_neg h]; simp [pushE, upto_len]; omega, k', ?_⟩
      rw [h2, ← upto_full (show 512 ≤ i by omega)]
      unfold pushF
      rw [if_neg (by rw [upto_len]; omega)]

theorem mod_nat (n m : Int) (h : n = 20 ∨ n = 512) : ∃ j : Nat, (IntKind.i64.wrap (m.tmod n + n)).tmod n = j ∧ (j : Int) < n := by
  have h1 : -n < m.tmod n ∧ m.tmod n < n := by
    have := Int.tmod_lt_of_pos m (show 0 < n by omega)
    refine ⟨?_, this⟩
    rcases Int.le_total 0 m with h0 | h0
    · have := Int.tmod_nonneg n h0; omega
    · have h2 := Int.tmod_lt_of_pos (-m) (show 0 < n by omega)
      rw [Int.neg_tmod] at h2
      omega
  rw [i64_id (by omega) (by omega)]
  have h3 := Int.tmod_nonneg n (show 0 ≤ m.tmod n + n by omega)
  have h4 := Int.tmod_lt_of_pos (m.tmod n + n) (show 0 < n by omega)
  exact ⟨((m.tmod n + n).tmod n).toNat, by omega, by omega⟩

set_option maxHeartbeats 1000000 in
theorem netFull_w (more at_ : Int) : Pure Try.prog 4 [.int .i64 more, .int .i64 at_] (.bool true) := by
  refine VCalls.intro 0 Try.func4 Try.ntmps4 Try.results4 rfl rfl (Nat.le_of_ble_eq_true rfl) fun c hc hb => wcode_of ?_
  have yes : ∀ σ : St, wret (some (.bool true)) 0 (fun r s => r = .bool true ∧ s = []) σ := fun σ => wret_0 (argS_no rfl) ⟨rfl, rfl⟩
  obtain ⟨m, hm, hm20⟩ := mod_nat 20 more (.inl rfl)
  obtain ⟨a, ha, ha512⟩ := mod_nat 512 at_ (.inr rfl)
  simp [go_sem]
  refine wVC_pure begun_w Try.callB6 (args_no rfl) rfl ?_
  simp [go_sem]
  refine wVC_new0 new_w Try.callB7 trivial ?_
  rintro r s ⟨rfl, rfl⟩
  have e1 : IntKind.i64.wrap (512 + (m : Int)) = ((512 + m : Nat) : Int) := by rw [i64_id (by omega) (by omega)]; omega
  simp [go_sem, hm]
  refine wVW_while (S := Nat × Nat) [0, 1, 5, 6] (fun u => [.int .i64 m, .int .i64 at_, .ptr 0 0, .int .i64 u.1]) (fun u => netS (upto u.1) u.2 u.1) (fun u => 512 + m - u.1)
    (fun u => u.1 ≤ 512 + m) hc hb (0, 0) (Nat.zero_le _) ?_ ?_
  · exact at_n 2 (by simp [netS, upto]) rfl (netS_ok _ _ _) (Nat.zero_le _) (args_lt_eq (by simp [go_sem]) rfl)
  rintro ⟨i, k⟩ hi
  simp only at hi
  refine wVW_code ?_
  simp [go_sem, e1]
  refine wcond_i (fun h => ?_) (fun h => ?_)
  · have h : i < 512 + m := by simp at h; omega
    simp [go_sem]
    refine wVC_pre 2 (upto_send i k (by omega)) Try.callB10 rfl rfl (netS_ok _ _ _) ⟨argS_lt rfl, argS_dem rfl, trivial⟩ (by rintro r s ⟨rfl, k', rfl⟩; exact ⟨rfl, netS_ok _ _ _, rfl⟩) ?_
    rintro r s ⟨rfl, k', rfl⟩
    have e2 := i64_inc h (by omega)
    by_cases h5 : i < 512
    · have h6 : decide ((i : Int) < 512) = true := by simp; omega
      simp [go_sem, h5, h6, e2]
      exact next_i (i + 1, k') ⟨by simp only; omega, h, at_n 2 (by simp [netS]) rfl (netS_ok _ _ _) (Nat.zero_le _) (args_lt_eq (by simp [go_sem]) rfl)⟩
    · have h6 : decide ((i : Int) < 512) = false := by simp; omega
      simp [go_sem, h5, h6, e2]
      exact next_i (i + 1, k') ⟨by simp only; omega, h, at_n 2 (by simp [netS]) rfl (netS_ok _ _ _) (Nat.zero_le _) (args_lt_eq (by simp [go_sem]) rfl)⟩
  · have h : i = 512 + m := by simp at h; omega
    subst h
    have hul : (upto (512 + m)).length = 512 := by rw [upto_len]; omega
    have hua : (upto (512 + m)).getD a pz = mk a := by
      unfold upto
      rw [List.getD_eq_getElem?_getD, List.getElem?_map, List.getElem?_range (by omega)]
      rfl
    simp [go_sem, ha]
    refine wVC_pre 2 (twice_w (upto (512 + m)) k a (512 + m) (by omega) (by omega)) Try.callB14 rfl rfl (netS_ok _ _ _) (args_ltn rfl) (by rintro r s ⟨rfl, k', rfl⟩; exact ⟨rfl, netS_ok _ _ _, rfl⟩) ?_
    have f1 : pushE (upto (512 + m)) = 8 := if_neg (by omega)
    have f2 : ∀ q, pushF (upto (512 + m)) q = upto (512 + m) := fun q => if_neg (by omega)
    rintro r s ⟨rfl, k1, rfl⟩
    simp [go_sem, f1, f2]
    have hel : ((upto (512 + m)).eraseIdx a).length = 511 := by rw [List.length_eraseIdx, if_pos (by omega), hul]
    refine wVC_pre 2 ((take_w (upto (512 + m)) k1 a (512 + m) (by omega) (by omega)).mono fun r s h => (⟨by rw [h.1, hua], h.2⟩ : r = .tup [.agg (prow (mk a)), .int .i64 0] ∧ s = netS ((upto (512 + m)).eraseIdx a) (k1 + 1) (512 + m))) Try.callB13 rfl rfl (netS_ok _ _ _) (args_ltn rfl) (by rintro r s ⟨rfl, rfl⟩; exact ⟨rfl, netS_ok _ _ _, rfl⟩) ?_
    rintro r s ⟨rfl, rfl⟩
    generalize (upto (512 + m)).eraseIdx a = ps at hel
    simp [go_sem, mk]
    refine wVC_pre 2 (twice_ok ps (ps ++ [ps.getD 0 pz]) (k1 + 1) 0 (512 + m) (by omega) (by omega) rfl) Try.callB14 (by simp [netS]) rfl (netS_ok _ _ _) (args_ltn rfl) (by rintro r s ⟨rfl, k', rfl⟩; exact ⟨rfl, netS_ok _ _ _, rfl⟩) ?_
    rintro r s ⟨rfl, k2, rfl⟩
    have hp2 : (ps ++ [ps.getD 0 pz]).length = 512 := by simp [hel]
    generalize ps ++ [ps.getD 0 pz] = ps2 at hp2
    simp [go_sem, netS]
    refine wVC_pure takeNil_w Try.callB13 (args_no rfl) rfl ?_
    simp [go_sem]
    refine wVC_pre 2 (len_w ps2 k2 (512 + m)) Try.callB15 (by simp [netS]) rfl (netS_ok _ _ _) (args_ltn rfl) (by rintro r s ⟨rfl, rfl⟩; exact ⟨rfl, netS_ok _ _ _, rfl⟩) ?_
    rintro r s ⟨rfl, rfl⟩
    simp [go_sem, hp2]
    refine wVC_pre 2 (sent_w ps2 k2 (512 + m)) Try.callB16 (by simp [netS]) rfl (netS_ok _ _ _) (args_ltn rfl) (by rintro r s ⟨rfl, rfl⟩; exact ⟨rfl, netS_ok _ _ _, rfl⟩) ?_
    rintro r s ⟨rfl, rfl⟩
    simp [go_sem, e1, netS]
    refine wVC_pure (sendNil_w (mk a)) Try.callB10 (args_no rfl) rfl ?_
    simp [go_sem]
    refine wVC_at 3 (sendZero_w (mk a)) Try.callB10 rfl rfl ⟨.inl rfl, argS_no rfl, trivial⟩ (by rintro r s ⟨rfl, rfl⟩; exact ⟨_, rfl, rfl⟩) ?_
    rintro r o2 ⟨rfl, h⟩
    cases h
    simp [go_sem]
    refine wVC_pure lenNil_w Try.callB15 (args_no rfl) rfl ?_
    simp [go_sem]
    refine wVC_at 3 lenZero_w Try.callB15 rfl rfl ⟨.inl rfl, trivial⟩ (by rintro r s ⟨rfl, rfl⟩; exact ⟨_, rfl, rfl⟩) ?_
    rintro r o2 ⟨rfl, h⟩
    cases h
    simp [go_sem]
    refine wVC_pure sentNil_w Try.callB16 (args_no rfl) rfl ?_
    simp [go_sem]
    refine wVC_at 3 sentZero_w Try.callB16 rfl rfl ⟨.inl rfl, trivial⟩ (by rintro r s ⟨rfl, rfl⟩; exact ⟨_, rfl, rfl⟩) ?_
    rintro r o2 ⟨rfl, h⟩
    cases h
    simp [go_sem, show IntKind.i64.wrap 0 = 0 from rfl]
    exact yes _
end Go.Proofs.Ytpghpndeihkcoaa
