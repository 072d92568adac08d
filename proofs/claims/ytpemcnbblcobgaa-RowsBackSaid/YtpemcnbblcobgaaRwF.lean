/-
  Contracts of functions that the claimed statement reaches, each proved over trees (the library Vx); used by the theorem at the end of the claim.
  Conditions: as each theorem states them.
-/
import Derived.Test.YtpemcnbblcobgaaRwE
namespace Go.Proofs.Ytpemcnbblcobgaa
open Go Go.Vx
set_option maxRecDepth 100000

/-- A number read, seven bits a byte: what it is, how many bytes it has, why not. -/
def takeG : List UInt8 → Nat → Nat → Nat × Nat × Int
  | [], _, _ => (0, 0, 2)
  | c :: rest, i, v => if i = 9 ∧ 1 < c.toNat then (0, 0, 5) else if c.toNat < 128 then (if c.toNat = 0 ∧ 0 < i then (0, 0, 9) else (v + c.toNat % 128 * 128 ^ i, i + 1, 0)) else takeG rest (i + 1) (v + c.toNat % 128 * 128 ^ i)
def takeV (r : Nat × Nat × Int) : V := .tup [.int .u64 r.1, .int .i64 r.2.1, .int .i64 r.2.2]

theorem andNot_all : ((List.range 256).all fun m => bitsV .andNot .u8 (m : Int) 128 == ((m % 128 : Nat) : Int)) = true := by decide +kernel
theorem u8_andNot (c : UInt8) : bitsV .andNot .u8 (c.toNat : Int) 128 = ((c.toNat % 128 : Nat) : Int) := by
  have h := List.all_eq_true.1 andNot_all c.toNat (List.mem_range.2 c.toNat_lt)
  exact beq_iff_eq.1 h
theorem u64_or {m n : Nat} (hm : m < 18446744073709551616) (hn : n < 18446744073709551616) (ho : m ||| n < 18446744073709551616) : bitsV .or .u64 (m : Int) (n : Int) = ((m ||| n : Nat) : Int) := by
  show IntKind.u64.wrap ((BitVec.ofInt 64 (m : Int) ||| BitVec.ofInt 64 (n : Int)).toNat : Int) = _
  rw [BitVec.ofInt_natCast, BitVec.ofInt_natCast, BitVec.toNat_or, BitVec.toNat_ofNat, BitVec.toNat_ofNat, Nat.mod_eq_of_lt (by omega), Nat.mod_eq_of_lt (by omega)]
  exact u64_id (by omega) (by omega)
theorem pow_128 (i : Nat) : 128 ^ i = 2 ^ (7 * i) := by rw [Nat.pow_mul]
theorem or_add {v x i : Nat} (hv : v < 128 ^ i) : v ||| (x * 128 ^ i) = v + x * 128 ^ i := by
  rw [pow_128] at *
  have := Nat.shiftLeft_add_eq_or_of_lt hv x
  rw [Nat.shiftLeft_eq] at this
  rw [Nat.or_comm, ← this, Nat.add_comm]
theorem pow_le {i : Nat} (h : i ≤ 8) : 128 ^ i ≤ 72057594037927936 := Nat.pow_le_pow_right (n := 128) (by omega) h
/-- The next number. -/
theorem next_lt {v x i : Nat} (hv : v < 128 ^ i) (hx : x < 128) : v + x * 128 ^ i < 128 ^ (i + 1) := by
  have : (x + 1) * 128 ^ i ≤ 128 * 128 ^ i := Nat.mul_le_mul_right _ (by omega)
  rw [Nat.pow_succ]
  rw [Nat.add_mul] at this
  omega
theorem next_64 {v x i : Nat} (hv : v < 128 ^ i) (hx : x < 128) (h9 : i ≤ 8 ∨ i = 9 ∧ x ≤ 1) : v + x * 128 ^ i < 18446744073709551616 ∧ x * 128 ^ i < 18446744073709551616 := by
  rcases h9 with h | ⟨rfl, h⟩
  · have h1 := next_lt hv hx
    have h2 : 128 ^ (i + 1) ≤ 128 ^ 9 := Nat.pow_le_pow_right (by omega) (by omega)
    omega
  · have : x = 0 ∨ x = 1 := by omega
    rcases this with rfl | rfl <;> omega

theorem byteRows_at {b : List UInt8} {i : Nat} (h : i < (byteRows b).length) : (byteRows b)[i] = [.int .u8 (b[i]'(by rw [byteRows_len] at h; exact h)).toNat] := by simp [byteRows]

theorem TakeVar_w (b : List UInt8) (hb0 : b.length ≤ maxB) : Pure Try.prog 35 [bys b] (takeV (takeG b 0 0)) := by
  refine VCalls.introV 0 Try.func35 Try.ntmps35 Try.results35 rfl rfl (Nat.le_of_ble_eq_true rfl) fun c hc hb => ?_
  refine wVW_code ?_
  simp [go_sem, bys, byteRows_len]
  refine wVW_while (S := Nat × Nat) [2, 7, 8, 9] (fun u => [.int .u64 u.2, bys b, .int .i64 b.length, .int .i64 u.1]) (fun _ => []) (fun u => b.length - u.1) (fun u => u.1 ≤ b.length ∧ u.1 ≤ 9 ∧ u.2 < 128 ^ u.1 ∧ takeG (b.drop u.1) u.1 u.2 = takeG b 0 0) hc hb (0, 0) ⟨Nat.zero_le _, Nat.zero_le _, by decide, rfl⟩ ?_ ?_
  · exact at_0 rfl (args_eq (by simp [go_sem, bys]) rfl)
  rintro ⟨i, v⟩ ⟨hi, h9, hv, ht⟩
  simp only at hi h9 hv ht
  refine wVW_code ?_
  simp [go_sem, bys]
  refine wcond_i (fun q => ?_) (fun q => ?_)
  · have q : i < b.length := by simpa using q
    obtain ⟨c0, hc0⟩ : ∃ c, b[i] = c := ⟨_, rfl⟩
    rw [List.drop_eq_getElem_cons q, hc0, takeG] at ht
    have hc1 : c0.toNat < 256 := c0.toNat_lt
    have ei : IntKind.i64.wrap ((i : Int) + 1) = ((i + 1 : Nat) : Int) := i64_inc q (by unfold maxB at hb0; omega)
    have ret : ∀ (r : Nat × Nat × Int) (σ : St), r = takeG b 0 0 → wret (some (takeV r)) 0 (fun r s => r = takeV (takeG b 0 0) ∧ s = []) σ := fun r σ h => by subst h; exact wret_0 (argS_no rfl) ⟨rfl, rfl⟩
    by_cases hA : i = 9 ∧ 1 < c0.toNat
    · rw [if_pos hA] at ht
      simp [go_sem, byteRows_len, q, byteRows_at, hc0]
      have f1 : ((i : Int) == 9) = true := by simp; omega
      refine wgrd_i (fun w => ?_) (fun w => absurd (f1.symm.trans w) (by decide))
      simp [go_sem, w]
      refine wcond_i (fun w2 => ?_) (fun w2 => absurd w2 (by simp; omega))
      simp [go_sem]
      exact ret (0, 0, 5) _ ht
    rw [if_neg hA] at ht
    have h98 : i ≤ 8 ∨ i = 9 ∧ c0.toNat % 128 ≤ 1 := by
      by_cases h : i = 9
      · exact .inr ⟨h, by have : ¬ 1 < c0.toNat := fun w => hA ⟨h, w⟩
                          omega⟩
      · exact .inl (by omega)
    have hx : c0.toNat % 128 < 128 := Nat.mod_lt _ (by omega)
    have n12 := next_64 hv hx h98
    have fA : i = 9 → ¬ 1 < c0.toNat := fun h w => hA ⟨h, w⟩
    have a1 := u8_andNot c0
    have e1 : IntKind.i64.wrap (7 * (i : Int)) = 7 * (i : Int) := i64_id (by omega) (by omega)
    have e2 : IntKind.u64.wrap (7 * (i : Int)) = 7 * (i : Int) := u64_id (by omega) (by omega)
    have e3 : IntKind.u64.wrap ((c0.toNat : Int) % 128) = (c0.toNat : Int) % 128 := u64_id (by omega) (by omega)
    obtain ⟨x, hxe⟩ : ∃ x : Nat, x = c0.toNat % 128 * 128 ^ i := ⟨_, rfl⟩
    obtain ⟨m, hme⟩ : ∃ m : Nat, m = v + x := ⟨_, rfl⟩
    have hm1 : m < 128 ^ (i + 1) := by rw [hme, hxe]; exact next_lt hv hx
    have hor : v ||| x = m := by rw [hme, hxe]; exact or_add hv
    rw [← hxe, ← hme] at ht n12
    have e4 : IntKind.u64.wrap ((c0.toNat : Int) % 128 * 2 ^ min (7 * (i : Int)).toNat 64) = (x : Int) := by
      have : min (7 * (i : Int)).toNat 64 = 7 * i := by omega
      rw [this]
      have h3 : (c0.toNat : Int) % 128 * 2 ^ (7 * i) = (x : Int) := by rw [hxe, pow_128]; simp
      rw [h3, u64_id (by omega) (by omega)]
    have e5 : bitsV .or .u64 (v : Int) (x : Int) = (m : Int) := by rw [u64_or (by omega) (by omega) (by omega), hor]
    simp [go_sem, byteRows_len, q, byteRows_at, hc0]
    refine wgrd_i (fun w => ?_) (fun w => ?_)
    · have w9 : i = 9 := by simp at w; omega
      have w1 := fA w9
      simp [go_sem, w]
      refine wcond_i (fun w2 => absurd w2 (by simp; omega)) (fun w2 => ?_)
      simp [go_sem, a1, e1, e2, e3, e4, e5]
      try (refine wneed_i (by omega) ?_; simp [go_sem, a1, e1, e2, e3, e4, e5])
      refine wcond_i (fun w3 => ?_) (fun w3 => ?_)
      · have w4 : ¬ c0.toNat < 128 := by have := of_decide_eq_true w3; omega
        have i8 : i + 1 ≤ 9 := by omega
        rw [if_neg w4] at ht
        simp [go_sem, ei]
        exact next_i (i + 1, m) ⟨by simp only; omega, ⟨q, i8, hm1, ht⟩, at_0 rfl (args_eq (by simp [go_sem, bys, ei]) rfl)⟩
      · have w4 : c0.toNat < 128 := by have := of_decide_eq_false w3; omega
        rw [if_pos w4] at ht
        simp [go_sem]
        refine wgrd_i (fun w5 => ?_) (fun w5 => ?_)
        · have w5' : c0.toNat = 0 := by simp at w5; omega
          simp [go_sem, w5]
          refine wcond_i (fun w6 => ?_) (fun w6 => ?_)
          · have w6' : 0 < i := by simpa using w6
            rw [if_pos ⟨w5', w6'⟩] at ht
            simp [go_sem]
            exact ret (0, 0, 9) _ ht
          · have w6' : ¬ 0 < i := by simpa using w6
            rw [if_neg (fun h => w6' h.2)] at ht
            simp [go_sem, ei]
            exact ret (m, i + 1, 0) _ ht
        · have w5' : ¬ c0.toNat = 0 := by simp at w5; omega
          rw [if_neg (fun h => w5' h.1)] at ht
          simp [go_sem, w5, ei]
          exact ret (m, i + 1, 0) _ ht
    · have w9 : ¬ i = 9 := by simp at w; omega
      simp [go_sem, w, a1, e1, e2, e3, e4, e5]
      try (refine wneed_i (by omega) ?_; simp [go_sem, a1, e1, e2, e3, e4, e5])
      refine wcond_i (fun w3 => ?_) (fun w3 => ?_)
      · have w4 : ¬ c0.toNat < 128 := by have := of_decide_eq_true w3; omega
        have i8 : i + 1 ≤ 9 := by omega
        rw [if_neg w4] at ht
        simp [go_sem, ei]
        exact next_i (i + 1, m) ⟨by simp only; omega, ⟨q, i8, hm1, ht⟩, at_0 rfl (args_eq (by simp [go_sem, bys, ei]) rfl)⟩
      · have w4 : c0.toNat < 128 := by have := of_decide_eq_false w3; omega
        rw [if_pos w4] at ht
        simp [go_sem]
        refine wgrd_i (fun w5 => ?_) (fun w5 => ?_)
        · have w5' : c0.toNat = 0 := by simp at w5; omega
          simp [go_sem, w5]
          refine wcond_i (fun w6 => ?_) (fun w6 => ?_)
          · have w6' : 0 < i := by simpa using w6
            rw [if_pos ⟨w5', w6'⟩] at ht
            simp [go_sem]
            exact ret (0, 0, 9) _ ht
          · have w6' : ¬ 0 < i := by simpa using w6
            rw [if_neg (fun h => w6' h.2)] at ht
            simp [go_sem, ei]
            exact ret (m, i + 1, 0) _ ht
        · have w5' : ¬ c0.toNat = 0 := by simp at w5; omega
          rw [if_neg (fun h => w5' h.1)] at ht
          simp [go_sem, w5, ei]
          exact ret (m, i + 1, 0) _ ht
  · have q : i = b.length := by have : ¬ i < b.length := by simpa using q
                                omega
    subst q
    rw [List.drop_length, takeG] at ht
    simp [go_sem]
    rw [← ht]
    exact wret_0 (argS_no rfl) ⟨rfl, rfl⟩
end Go.Proofs.Ytpemcnbblcobgaa
