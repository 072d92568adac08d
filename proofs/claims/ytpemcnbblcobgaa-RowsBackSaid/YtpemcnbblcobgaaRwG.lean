/-
  Contracts of functions that the claimed statement reaches, each proved over trees (the library Vx); used by the theorem at the end of the claim.
  Conditions: as each theorem states them.
-/
import Derived.Test.YtpemcnbblcobgaaRwF
namespace Go.Proofs.Ytpemcnbblcobgaa
open Go Go.Vx
set_option maxRecDepth 100000

theorem refTakeVar_w (b : List UInt8) (hb0 : b.length ≤ maxB) : Pure Try.prog 37 [bys b] (takeV (takeG b 0 0)) := by
  refine VCalls.introV 0 Try.func37 Try.ntmps37 Try.results37 rfl rfl (Nat.le_of_ble_eq_true rfl) fun c hc hb => ?_
  refine wVW_code ?_
  simp [go_sem, bys, byteRows_len]
  refine wVW_while (S := Nat × Nat × Nat) [0, 5, 6, 7] (fun u => [bys b, .int .u64 u.2.1, .int .u64 u.2.2, .int .i64 u.1]) (fun _ => []) (fun u => b.length - u.1) (fun u => u.1 ≤ b.length ∧ u.1 ≤ 9 ∧ u.2.1 < 128 ^ u.1 ∧ u.2.2 = 128 ^ u.1 ∧ takeG (b.drop u.1) u.1 u.2.1 = takeG b 0 0) hc hb (0, 0, 1) ⟨Nat.zero_le _, Nat.zero_le _, by decide, rfl, rfl⟩ ?_ ?_
  · exact at_0 rfl (args_eq (by simp [go_sem, bys]) rfl)
  rintro ⟨i, v, p⟩ ⟨hi, h9, hv, hp, ht⟩
  simp only at hi h9 hv hp ht
  refine wVW_code ?_
  have f0 : decide ((i : Int) < 10) = true := decide_eq_true (by omega)
  simp [go_sem, bys, byteRows_len]
  refine wcond_i (fun q0 => ?_) (fun q0 => absurd (f0.symm.trans q0) (by decide))
  simp [go_sem, byteRows_len]
  refine wcond_i (fun q => ?_) (fun q => ?_)
  · have q : i = b.length := by have := of_decide_eq_true q
                                omega
    subst q
    rw [List.drop_length, takeG] at ht
    simp [go_sem]
    rw [← ht]
    exact wret_0 (argS_no rfl) ⟨rfl, rfl⟩
  · have q : i < b.length := by have := of_decide_eq_false q
                                omega
    obtain ⟨c0, hc0⟩ : ∃ c, b[i] = c := ⟨_, rfl⟩
    rw [List.drop_eq_getElem_cons q, hc0, takeG] at ht
    have hc1 : c0.toNat < 256 := c0.toNat_lt
    have ei : IntKind.i64.wrap ((i : Int) + 1) = ((i + 1 : Nat) : Int) := i64_inc q (by unfold maxB at hb0; omega)
    have ret : ∀ (r : Nat × Nat × Int) (σ : St), r = takeG b 0 0 → wret (some (takeV r)) 0 (fun r s => r = takeV (takeG b 0 0) ∧ s = []) σ := fun r σ h => by subst h; exact wret_0 (argS_no rfl) ⟨rfl, rfl⟩
    by_cases hA : i = 9 ∧ 1 < c0.toNat
    · rw [if_pos hA] at ht
      have f1 : ((i : Int) == 9) = true := by simp; omega
      simp [go_sem]
      refine wgrd_i (fun w => ?_) (fun w => absurd (f1.symm.trans w) (by decide))
      simp [go_sem, w, byteRows_len, q, byteRows_at, hc0]
      refine wcond_i (fun w2 => ?_) (fun w2 => absurd w2 (by simp; omega))
      simp [go_sem]
      exact ret (0, 0, 5) _ ht
    rw [if_neg hA] at ht
    have h98 : i ≤ 8 ∨ i = 9 ∧ c0.toNat % 128 ≤ 1 := by
      by_cases h : i = 9
      · exact .inr ⟨h, by have : ¬ 1 < c0.toNat := fun w => hA ⟨h, w⟩
                          omega⟩
      · exact .inl (by omega)
    have hx : c0.toNat % 128 < 128 := Nat.mod_lt _ (by omega)
    have n12 := next_64 hv hx h98
    have fA : i = 9 → ¬ 1 < c0.toNat := fun h w => hA ⟨h, w⟩
    obtain ⟨x, hxe⟩ : ∃ x : Nat, x = c0.toNat % 128 * 128 ^ i := ⟨_, rfl⟩
    obtain ⟨m, hme⟩ : ∃ m : Nat, m = v + x := ⟨_, rfl⟩
    have hm1 : m < 128 ^ (i + 1) := by rw [hme, hxe]; exact next_lt hv hx
    rw [← hxe, ← hme] at ht n12
    have e0 : (c0.toNat : Int).tmod 128 = (c0.toNat : Int) % 128 := Int.tmod_eq_emod_of_nonneg (by omega)
    have e3 : IntKind.u64.wrap ((c0.toNat : Int) % 128) = (c0.toNat : Int) % 128 := u64_id (by omega) (by omega)
    have e4 : IntKind.u64.wrap ((c0.toNat : Int) % 128 * (p : Int)) = (x : Int) := by
      have h3 : (c0.toNat : Int) % 128 * (p : Int) = (x : Int) := by rw [hxe, hp]; simp
      rw [h3, u64_id (by omega) (by omega)]
    have e5 : IntKind.u64.wrap ((v : Int) + (x : Int)) = (m : Int) := by rw [show (v : Int) + (x : Int) = (m : Int) by omega, u64_id (by omega) (by omega)]
    have e6 : i ≠ 9 → IntKind.u64.wrap ((p : Int) * 128) = ((p * 128 : Nat) : Int) := fun h => by
      have h1 : 128 ^ i ≤ 72057594037927936 := pow_le (by omega)
      rw [u64_id (by omega) (by omega)]; omega
    have hp1 : p * 128 = 128 ^ (i + 1) := by rw [hp, Nat.pow_succ]
    simp [go_sem]
    refine wgrd_i (fun w => ?_) (fun w => ?_)
    · have w9 : i = 9 := by simp at w; omega
      have w1 := fA w9
      simp [go_sem, w, byteRows_len, q, byteRows_at, hc0]
      refine wcond_i (fun w2 => absurd w2 (by simp; omega)) (fun w2 => ?_)
      simp [go_sem, byteRows_len, q, byteRows_at, hc0, e0, e3, e4, e5]
      refine wcond_i (fun w3 => ?_) (fun w3 => ?_)
      · have w4 : c0.toNat < 128 := by have := of_decide_eq_true w3; omega
        rw [if_pos w4] at ht
        simp [go_sem, byteRows_len, q, byteRows_at, hc0]
        refine wgrd_i (fun w5 => ?_) (fun w5 => ?_)
        · have w5' : c0.toNat = 0 := by simp at w5; omega
          simp [go_sem, w5]
          refine wcond_i (fun w6 => ?_) (fun w6 => ?_)
          · have w6' : 0 < i := by simpa using w6
            rw [if_pos ⟨w5', w6'⟩] at ht
            simp [go_sem]
            exact ret (0, 0, 9) _ ht
          · have w6' : ¬ 0 < i := by simpa using w6
            rw [if_neg (fun h => w6' h.2)] at ht
            simp [go_sem, ei]
            exact ret (m, i + 1, 0) _ ht
        · have w5' : ¬ c0.toNat = 0 := by simp at w5; omega
          rw [if_neg (fun h => w5' h.1)] at ht
          simp [go_sem, w5, ei]
          exact ret (m, i + 1, 0) _ ht
      · have w4 : ¬ c0.toNat < 128 := by have := of_decide_eq_false w3; omega
        omega
    · have w9 : ¬ i = 9 := by simp at w; omega
      simp [go_sem, w, byteRows_len, q, byteRows_at, hc0, e0, e3, e4, e5]
      refine wcond_i (fun w3 => ?_) (fun w3 => ?_)
      · have w4 : c0.toNat < 128 := by have := of_decide_eq_true w3; omega
        rw [if_pos w4] at ht
        simp [go_sem, byteRows_len, q, byteRows_at, hc0]
        refine wgrd_i (fun w5 => ?_) (fun w5 => ?_)
        · have w5' : c0.toNat = 0 := by simp at w5; omega
          simp [go_sem, w5]
          refine wcond_i (fun w6 => ?_) (fun w6 => ?_)
          · have w6' : 0 < i := by simpa using w6
            rw [if_pos ⟨w5', w6'⟩] at ht
            simp [go_sem]
            exact ret (0, 0, 9) _ ht
          · have w6' : ¬ 0 < i := by simpa using w6
            rw [if_neg (fun h => w6' h.2)] at ht
            simp [go_sem, ei]
            exact ret (m, i + 1, 0) _ ht
        · have w5' : ¬ c0.toNat = 0 := by simp at w5; omega
          rw [if_neg (fun h => w5' h.1)] at ht
          simp [go_sem, w5, ei]
          exact ret (m, i + 1, 0) _ ht
      · have w4 : ¬ c0.toNat < 128 := by have := of_decide_eq_false w3; omega
        have i8 : i + 1 ≤ 9 := by omega
        have e7 := e6 w9
        rw [if_neg w4] at ht
        simp [go_sem]
        exact next_i (i + 1, m, p * 128) ⟨by simp only; omega, ⟨q, i8, hm1, hp1, ht⟩, at_0 rfl (args_eq (by simp [go_sem, bys, ei, e7]) rfl)⟩
end Go.Proofs.Ytpemcnbblcobgaa
