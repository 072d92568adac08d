/-
  Contracts of functions that the claimed statement reaches, each proved over trees (the library Vx); used by the theorem at the end of the claim.
  Conditions: as each theorem states them.
-/
import Derived.Test.YtpemcnbblcobgaaRwS
namespace Go.Proofs.Ytpemcnbblcobgaa
open Go Go.Vx
set_option maxRecDepth 100000

theorem kind_cases {v : GValue} (h : mayF v = true) : v.kind = 0 ∨ v.kind = 1 ∨ v.kind = 2 ∨ v.kind = 3 := by
  unfold mayF at h
  by_cases h0 : v.kind = 0
  · exact .inl h0
  · by_cases h1 : v.kind = 1
    · exact .inr (.inl h1)
    · by_cases h2 : v.kind = 2
      · exact .inr (.inr (.inl h2))
      · by_cases h3 : v.kind = 3
        · exact .inr (.inr (.inr h3))
        · simp [h0, h1, h2, h3] at h
theorem esc_take {s : List UInt8} {i : Nat} (h : i < s.length) : esc (s.take (i + 1)) = esc (s.take i) ++ (if s[i] = 0 then [0, 255] else [s[i]]) := by
  rw [List.take_succ_eq_append_getElem h, esc_append]
  simp only [esc]

theorem uni_two {s : Nat} {a b : List V} (h1 : a.length = s) (h2 : b.length = s) : uni s [a, b] := fun r hr => by
  simp at hr
  rcases hr with rfl | rfl <;> assumption
theorem Key_w (b : List UInt8) (v : GValue) (hv : v.ok) (hb0 : b.length ≤ maxB - 1) (hs : v.s.length ≤ 500) : Pure Try.prog 31 [bys b, .agg v.row] (bys (b ++ keyF v)) := by
  refine VCalls.introV 0 Try.func31 Try.ntmps31 Try.results31 rfl rfl (Nat.le_of_ble_eq_true rfl) fun c hc hb => ?_
  refine wVW_code ?_
  obtain ⟨k, n, s⟩ := v
  have hn := hv.n
  simp only at hs hn
  simp [go_sem, bys, byteRows_len]
  refine wneed_i ⟨by unfold maxB at *; omega, by simp [uni], byteRows_u b⟩ ?_
  simp [go_sem]
  refine wVC_pure (May_w ⟨k, n, s⟩) Try.callB33 (args_no rfl) rfl ?_
  simp [go_sem]
  refine wcond_i (fun h => ?_) (fun h => ?_)
  · simp [go_sem]
    refine bys_ret ?_
    have h : mayF ⟨k, n, s⟩ = false := by simpa using h
    simp [keyF, h, byteRows]
  have h : mayF ⟨k, n, s⟩ = true := by simpa using h
  have hk := kind_cases h
  simp only at hk
  simp [go_sem, byteRows_len]
  refine wneed_i ⟨by unfold maxB at *; omega, uni_one rfl⟩ ?_
  have w0 : IntKind.u8.wrap 0 = 0 := by decide +kernel
  have w1 : IntKind.u8.wrap 1 = 1 := by decide +kernel
  have w2 : IntKind.u8.wrap 2 = 2 := by decide +kernel
  have w3 : IntKind.u8.wrap 3 = 3 := by decide +kernel
  rcases hk with rfl | rfl | rfl | rfl
  · simp [go_sem]
    refine bys_ret ?_
    simp [keyF, h, byteRows, w0]
  · have h1 : n = 0 ∨ n = 1 := by
      unfold mayF at h
      simp at h
      exact h.1
    simp [go_sem]
    refine wneed_i ⟨byteRows_len b, by rw [byteRows_len]; unfold maxB at *; omega, uni_one rfl⟩ ?_
    simp [go_sem]
    refine bys_ret ?_
    rcases h1 with rfl | rfl <;> simp [keyF, h, byteRows, w0, w1]
  · simp [go_sem]
    obtain ⟨u, hu⟩ : ∃ u, (n + 9223372036854775808).toNat = u := ⟨_, rfl⟩
    have hO := Order_w n hn
    rw [hu] at hO
    refine wVC_pure hO Try.callB50 (args_no rfl) rfl ?_
    simp [go_sem]
    refine wVC_pure (Put_w (b ++ [2]) u (by simp; unfold maxB at *; omega) (by omega)) Try.callB49 ⟨argS_rows (by simp [byteRows, w2]), argS_no rfl, argS_no rfl, trivial⟩ rfl ?_
    simp [go_sem]
    refine bys_ret ?_
    simp [keyF, h, hu]
  · simp [go_sem]
    refine wVW_while (S := Nat) [3, 5, 44, 45] (fun i => [.ptr 0 0, .sl (.app 1) (byteRows (b ++ 3 :: esc (s.take i))), .int .i64 s.length, .int .i64 i]) (fun i => [.box [.int .i64 3, .int .i64 n, .str s], .app (b ++ 3 :: esc (s.take i)).length 1]) (fun i => s.length - i) (fun i => i ≤ s.length) hc hb 0 (Nat.zero_le _) ?_ ?_
    · exact at_n 2 (by simp [esc]) rfl rfl (Nat.zero_le _) (args_lt_eq (by simp [go_sem, esc, byteRows, w3]) rfl)
    intro i hi
    have hel := esc_len (s.take i)
    have htl : (s.take i).length ≤ s.length := by simp; omega
    obtain ⟨o, ho⟩ : ∃ o, b ++ 3 :: esc (s.take i) = o := ⟨_, rfl⟩
    have hol : o.length ≤ maxB + 1100 := by
      rw [← ho]
      simp
      unfold maxB at *
      omega
    rw [ho]
    refine wVW_code ?_
    simp [go_sem]
    refine wcond_i (fun q => ?_) (fun q => ?_)
    · have q : i < s.length := by simpa using q
      have ei := i64_inc q (by omega)
      have hnext := esc_take q
      obtain ⟨c0, hc0⟩ : ∃ c0, s[i] = c0 := ⟨_, rfl⟩
      simp [go_sem, q, hc0, byteRows_len]
      refine wneed_i ⟨by unfold maxB at *; omega, uni_one rfl⟩ ?_
      simp [go_sem, q, hc0]
      refine wcond_i (fun q2 => ?_) (fun q2 => ?_)
      · have q2 : c0 = 0 := by
          have : c0.toNat = 0 := by simp at q2; omega
          exact UInt8.toNat_inj.1 (by simpa using this)
        rw [hc0, if_pos q2] at hnext
        simp [go_sem, byteRows_len]
        refine wneed_i ⟨by unfold maxB at *; omega, uni_one rfl⟩ ?_
        simp [go_sem, ei]
        exact next_i (i + 1) ⟨by omega, q, at_n 2 (by simp [hnext, ← ho]; omega) rfl rfl (Nat.zero_le _) (args_lt_eq (by simp [go_sem, ei, hnext, ← ho, byteRows, q2]) rfl)⟩
      · have q2 : ¬ c0 = 0 := fun h => by rw [h] at q2; simp at q2
        rw [hc0, if_neg q2] at hnext
        simp [go_sem, ei]
        exact next_i (i + 1) ⟨by omega, q, at_n 2 (by simp [hnext, ← ho]; omega) rfl rfl (Nat.zero_le _) (args_lt_eq (by simp [go_sem, ei, hnext, ← ho, byteRows]) rfl)⟩
    · have q : i = s.length := by have : ¬ i < s.length := by simpa using q
                                  omega
      subst q
      simp [go_sem, byteRows_len]
      refine wneed_i ⟨by unfold maxB at *; omega, uni_two rfl rfl⟩ ?_
      simp [go_sem]
      refine bys_ret ?_
      rw [List.take_length] at ho
      simp [keyF, h, byteRows, ← ho]
theorem refKey_w (b : List UInt8) (v : GValue) (hv : v.ok) (hb0 : b.length ≤ maxB - 1) (hs : v.s.length ≤ 500) : Pure Try.prog 32 [bys b, .agg v.row] (bys (b ++ keyF v)) := by
  refine VCalls.introV 0 Try.func32 Try.ntmps32 Try.results32 rfl rfl (Nat.le_of_ble_eq_true rfl) fun c hc hb => ?_
  refine wVW_code ?_
  obtain ⟨k, n, s⟩ := v
  have hn := hv.n
  simp only at hs hn
  simp [go_sem, bys, byteRows_len]
  refine wneed_i ⟨by unfold maxB at *; omega, by simp [uni], byteRows_u b⟩ ?_
  simp [go_sem]
  refine wVC_pure (refMay_w ⟨k, n, s⟩) Try.callB34 (args_no rfl) rfl ?_
  simp [go_sem]
  refine wcond_i (fun h => ?_) (fun h => ?_)
  · simp [go_sem]
    refine bys_ret ?_
    have h : mayF ⟨k, n, s⟩ = false := by simpa using h
    simp [keyF, h, byteRows]
  have h : mayF ⟨k, n, s⟩ = true := by simpa using h
  have hk := kind_cases h
  simp only at hk
  simp [go_sem, byteRows_len]
  refine wneed_i ⟨by unfold maxB at *; omega, uni_one rfl⟩ ?_
  have w0 : IntKind.u8.wrap 0 = 0 := by decide +kernel
  have w1 : IntKind.u8.wrap 1 = 1 := by decide +kernel
  have w2 : IntKind.u8.wrap 2 = 2 := by decide +kernel
  have w3 : IntKind.u8.wrap 3 = 3 := by decide +kernel
  rcases hk with rfl | rfl | rfl | rfl
  · simp [go_sem]
    refine bys_ret ?_
    simp [keyF, h, byteRows, w0]
  · have h1 : n = 0 ∨ n = 1 := by
      unfold mayF at h
      simp at h
      exact h.1
    simp [go_sem]
    refine wneed_i ⟨byteRows_len b, by rw [byteRows_len]; unfold maxB at *; omega, uni_one rfl⟩ ?_
    simp [go_sem]
    refine bys_ret ?_
    rcases h1 with rfl | rfl <;> simp [keyF, h, byteRows, w0, w1]
  · simp [go_sem]
    obtain ⟨u, hu⟩ : ∃ u, (n + 9223372036854775808).toNat = u := ⟨_, rfl⟩
    have hO := refOrder_w n hn
    rw [hu] at hO
    refine wVC_pure hO Try.callB52 (args_no rfl) rfl ?_
    simp [go_sem]
    refine wVC_pure (Eight_w u (by omega)) Try.callB51 (args_no rfl) rfl ?_
    simp [go_sem, bys, byteRows_len]
    refine wneed_i ⟨by rw [be_len]; unfold maxB at *; omega, byteRows_u _⟩ ?_
    simp [go_sem]
    refine bys_ret ?_
    simp [keyF, h, hu, byteRows, w2]
  · simp [go_sem]
    refine wVW_while (S := Nat) [3, 5, 6] (fun i => [.ptr 0 0, .sl (.app 1) (byteRows (b ++ 3 :: esc (s.take i))), .int .i64 i]) (fun i => [.box [.int .i64 3, .int .i64 n, .str s], .app (b ++ 3 :: esc (s.take i)).length 1]) (fun i => s.length - i) (fun i => i ≤ s.length) hc hb 0 (Nat.zero_le _) ?_ ?_
    · exact at_n 2 (by simp [esc]) rfl rfl (Nat.zero_le _) (args_lt_eq (by simp [go_sem, esc, byteRows, w3]) rfl)
    intro i hi
    have hel := esc_len (s.take i)
    have htl : (s.take i).length ≤ s.length := by simp; omega
    obtain ⟨o, ho⟩ : ∃ o, b ++ 3 :: esc (s.take i) = o := ⟨_, rfl⟩
    have hol : o.length ≤ maxB + 1100 := by
      rw [← ho]
      simp
      unfold maxB at *
      omega
    rw [ho]
    refine wVW_code ?_
    simp [go_sem]
    refine wcond_i (fun q => ?_) (fun q => ?_)
    · have q : i < s.length := by simpa using q
      have ei := i64_inc q (by omega)
      have hnext := esc_take q
      obtain ⟨c0, hc0⟩ : ∃ c0, s[i] = c0 := ⟨_, rfl⟩
      simp [go_sem, q, hc0, byteRows_len]
      refine wneed_i ⟨by unfold maxB at *; omega, uni_one rfl⟩ ?_
      simp [go_sem, q, hc0]
      refine wcond_i (fun q2 => ?_) (fun q2 => ?_)
      · have q2 : c0 = 0 := by
          have : c0.toNat = 0 := by simp at q2; omega
          exact UInt8.toNat_inj.1 (by simpa using this)
        rw [hc0, if_pos q2] at hnext
        simp [go_sem, byteRows_len]
        refine wneed_i ⟨by unfold maxB at *; omega, uni_one rfl⟩ ?_
        simp [go_sem, ei]
        exact next_i (i + 1) ⟨by omega, q, at_n 2 (by simp [hnext, ← ho]; omega) rfl rfl (Nat.zero_le _) (args_lt_eq (by simp [go_sem, ei, hnext, ← ho, byteRows, q2]) rfl)⟩
      · have q2 : ¬ c0 = 0 := fun h => by rw [h] at q2; simp at q2
        rw [hc0, if_neg q2] at hnext
        simp [go_sem, ei]
        exact next_i (i + 1) ⟨by omega, q, at_n 2 (by simp [hnext, ← ho]; omega) rfl rfl (Nat.zero_le _) (args_lt_eq (by simp [go_sem, ei, hnext, ← ho, byteRows]) rfl)⟩
    · have q : i = s.length := by have : ¬ i < s.length := by simpa using q
                                  omega
      subst q
      simp [go_sem, byteRows_len]
      refine wneed_i ⟨by unfold maxB at *; omega, uni_two rfl rfl⟩ ?_
      simp [go_sem]
      refine bys_ret ?_
      rw [List.take_length] at ho
      simp [keyF, h, byteRows, ← ho]
end Go.Proofs.Ytpemcnbblcobgaa
