/-
  Contracts of functions that the claimed statement reaches, each proved over trees (the library Vx); used by the theorem at the end of the claim.
  Conditions: as each theorem states them.
-/
import Derived.Test.YtpemcnbblcobgaaRwP
namespace Go.Proofs.Ytpemcnbblcobgaa
open Go Go.Vx
set_option maxRecDepth 100000

theorem xor63 (a : Nat) (h : a < 2 ^ 64) : a ^^^ 2 ^ 63 = (2 ^ 63 + a) % 2 ^ 64 := by
  apply Nat.eq_of_testBit_eq
  intro j
  rw [Nat.testBit_xor, Nat.testBit_two_pow, Nat.testBit_mod_two_pow]
  rcases Nat.lt_trichotomy j 63 with h1 | h1 | h1
  · rw [Nat.testBit_two_pow_add_gt h1]
    simp [show j < 64 by omega, show ¬ 63 = j by omega]
  · subst h1
    rw [Nat.testBit_two_pow_add_eq]
    simp
  · rw [Nat.testBit_lt_two_pow (Nat.lt_of_lt_of_le h (Nat.pow_le_pow_right (by decide) (by omega)))]
    simp [show ¬ j < 64 by omega, show ¬ 63 = j by omega]
theorem order_x {n : Int} (h1 : -9223372036854775808 ≤ n) (h2 : n ≤ 9223372036854775807) : bitsV .xor .u64 (IntKind.u64.wrap n) 9223372036854775808 = (((n + 9223372036854775808).toNat : Nat) : Int) := by
  obtain ⟨a, ha, hlt⟩ : ∃ a : Nat, IntKind.u64.wrap n = (a : Int) ∧ (a : Int) = n % 18446744073709551616 := by
    unfold IntKind.wrap
    simp [IntKind.bits, IntKind.signed]
    exact ⟨(n % 18446744073709551616).toNat, by omega, by omega⟩
  have hl : a < 2 ^ 64 := by omega
  show IntKind.u64.wrap ((BitVec.ofInt 64 (IntKind.u64.wrap n) ^^^ BitVec.ofInt 64 ((9223372036854775808 : Nat) : Int)).toNat : Int) = _
  rw [ha, BitVec.ofInt_natCast, BitVec.ofInt_natCast, BitVec.toNat_xor, BitVec.toNat_ofNat, BitVec.toNat_ofNat, Nat.mod_eq_of_lt hl, show 9223372036854775808 % 2 ^ 64 = 2 ^ 63 by decide, xor63 a hl]
  unfold IntKind.wrap
  simp [IntKind.bits, IntKind.signed]
  omega

-- the order of numbers
theorem Order_w (n : Int) (hn : i64R n) : Pure Try.prog 50 [.int .i64 n] (.int .u64 (n + 9223372036854775808).toNat) := by
  have e := order_x hn.1 hn.2
  refine VCalls.intro 0 Try.func50 Try.ntmps50 Try.results50 rfl rfl (Nat.le_of_ble_eq_true rfl) fun c hc hb => wcode_of ?_
  simp [go_sem, e]
  exact wret_0 (argS_no rfl) ⟨rfl, rfl⟩
theorem refOrder_w (n : Int) (hn : i64R n) : Pure Try.prog 52 [.int .i64 n] (.int .u64 (n + 9223372036854775808).toNat) := by
  unfold i64R at hn
  refine VCalls.intro 0 Try.func52 Try.ntmps52 Try.results52 rfl rfl (Nat.le_of_ble_eq_true rfl) fun c hc hb => wcode_of ?_
  simp [go_sem]
  refine wcond_i (fun q => ?_) (fun q => ?_)
  · have q : 0 ≤ n := by simpa using q
    have e1 : IntKind.u64.wrap n = n := u64_id (by omega) (by omega)
    have e2 : IntKind.u64.wrap (9223372036854775808 + n) = ((n + 9223372036854775808).toNat : Int) := by rw [u64_id (by omega) (by omega)]; omega
    simp [go_sem, e1, e2]
    exact wret_0 (argS_no rfl) ⟨rfl, rfl⟩
  · have q : n < 0 := by simpa using q
    have e1 : IntKind.i64.wrap (n + 9223372036854775807) = n + 9223372036854775807 := i64_id (by omega) (by omega)
    have e2 : IntKind.i64.wrap (n + 9223372036854775807 + 1) = n + 9223372036854775807 + 1 := i64_id (by omega) (by omega)
    have e3 : IntKind.u64.wrap (n + 9223372036854775807 + 1) = ((n + 9223372036854775808).toNat : Int) := by rw [u64_id (by omega) (by omega)]; omega
    simp [go_sem, e1, e2, e3]
    exact wret_0 (argS_no rfl) ⟨rfl, rfl⟩

theorem u8_lt (n : Int) : IntKind.u8.wrap n < 256 := by
  unfold IntKind.wrap
  simp [IntKind.bits, IntKind.signed]
  omega
theorem tab_le (l : List UInt8) (h : l.all (fun c => decide (c.toNat ≤ 8)) = true) (i : Nat) : (l[i]?.getD 0).toNat ≤ 8 := by
  rcases Nat.lt_or_ge i l.length with q | q
  · rw [List.getElem?_eq_getElem q]
    simpa using List.all_eq_true.1 h _ (List.getElem_mem q)
  · rw [List.getElem?_eq_none q]; decide
theorem len_fin {a : Nat} (ha : a ≤ 64) : ∃ n : Nat, V.int .i64 (a : Int) = .int .i64 n ∧ n ≤ 64 := ⟨a, rfl, ha⟩
theorem len_fin0 {n : Int} (h0 : 0 ≤ n) (h : n ≤ 64) : ∃ m : Nat, V.int .i64 n = .int .i64 m ∧ m ≤ 64 := ⟨n.toNat, by congr 1; omega, by omega⟩
/-- How many bits a number has: 64 at most. -/
theorem Len64_w (v : Nat) (hv : v < 18446744073709551616) : VCalls Try.prog 78 [.int .u64 v] [] fun r s => (∃ n : Nat, r = .int .i64 n ∧ n ≤ 64) ∧ s = [] := by
  have w48 : IntKind.i64.wrap 48 = 48 := by decide +kernel
  have w40 : IntKind.i64.wrap 40 = 40 := by decide +kernel
  have w16 : IntKind.i64.wrap 16 = 16 := by decide +kernel
  have w8 : IntKind.i64.wrap 8 = 8 := by decide +kernel
  have w56 : IntKind.i64.wrap (48 + 8) = 56 := by decide +kernel
  have w24 : IntKind.i64.wrap (16 + 8) = 24 := by decide +kernel
  refine VCalls.intro 0 Try.func78 Try.ntmps78 Try.results78 rfl rfl (Nat.le_of_ble_eq_true rfl) fun c hc hb => wcode_of ?_
  simp [go_sem]
  repeat' (refine wcond_i (fun q => ?_) (fun q => ?_) <;> simp [go_sem])
  all_goals
    refine wneed_i (u8_lt _) ?_
    generalize hx : UInt8.toNat (Option.getD _ _) = x
    have h8 : x ≤ 8 := hx ▸ tab_le _ (by decide +kernel) _
    clear hx
    have e8 : IntKind.i64.wrap (x : Int) = x := i64_id (by omega) (by omega)
    simp [go_sem, e8]
  all_goals
    try simp only [w48, w40, w16, w8, w56, w24]
    first
    | exact wret_0 (argS_no rfl) ⟨len_fin0 (by omega) (by omega), rfl⟩
    | (rw [i64_id (by omega) (by omega)]
       exact wret_0 (argS_no rfl) ⟨len_fin0 (by omega) (by omega), rfl⟩)

theorem fdiv_be (v k : Nat) (hk : k ≤ 7) : IntKind.u8.wrap ((v : Int).fdiv (2 ^ (8 * k))) = ((UInt8.ofNat (v / 256 ^ k)).toNat : Int) := by
  have e : (v : Int).fdiv (2 ^ (8 * k)) = ((v / 256 ^ k : Nat) : Int) := by
    rw [Int.fdiv_eq_ediv_of_nonneg _ (by exact Int.le_of_lt (Int.pow_pos (by decide)))]
    rw [show (2 : Int) ^ (8 * k) = ((256 ^ k : Nat) : Int) by rw [Int.pow_mul]; simp]
    rw [Int.natCast_ediv]
  rw [e, u8_nat]

theorem Put_w (b : List UInt8) (v : Nat) (hb0 : b.length ≤ maxB) (hv : v < 18446744073709551616) : Pure Try.prog 49 [bys b, .int .u64 v, .int .i64 8] (.tup [bys (b ++ be v 8), .int .i64 0]) := by
  refine VCalls.introV 0 Try.func49 Try.ntmps49 Try.results49 rfl rfl (Nat.le_of_ble_eq_true rfl) fun c hc hb => ?_
  refine wVW_code ?_
  simp [go_sem, bys]
  refine wVC_rel (R := fun r => ∃ n : Nat, r = .int .i64 n ∧ n ≤ 64) (Len64_w v hv) Try.callB78 (args_no rfl) (fun r h => by obtain ⟨b, rfl, _⟩ := h; rfl) ?_
  rintro r ⟨n, rfl, hn⟩
  have e64 : IntKind.i64.wrap 64 = 64 := by decide +kernel
  simp [go_sem, e64]
  refine wcond_i (fun q => absurd q (by simp; omega)) (fun q => ?_)
  simp [go_sem]
  refine wVC_new0 (room_w b 8 hb0 (by decide)) Try.callB59 (args_no rfl) ?_
  rintro r s ⟨rfl, rfl⟩
  simp [go_sem, byA, stA]
  have ew : ∀ k : Nat, k ≤ 8 → IntKind.i64.wrap (8 * (k : Int) - 8) = 8 * (k : Int) - 8 := fun k h => i64_id (by omega) (by omega)
  have e56 : IntKind.i64.wrap (8 * IntKind.i64.wrap 7) = 56 := by decide +kernel
  refine wVW_while (S := Nat × List UInt8) [1, 8, 9] (fun u => [.int .u64 v, byA u.2, .int .i64 (8 * (u.1 : Int) - 8)]) (fun u => stA u.2) (fun u => u.1) (fun u => u.1 ≤ 8 ∧ u.2 ++ be v u.1 = b ++ be v 8) hc hb (8, b) ⟨Nat.le_refl _, rfl⟩ ?_ ?_
  · exact at_n 1 (by simp [stA]) rfl rfl (Nat.zero_le _) (args_lt_eq (by simp [go_sem, byA, e56]) rfl)
  rintro ⟨k, out⟩ ⟨hk, hout⟩
  simp only at hk hout
  have hol : out.length + k = b.length + 8 := by
    have := congrArg List.length hout
    simpa [be_len] using this
  refine wVW_code ?_
  simp [go_sem, byA, stA]
  refine wcond_i (fun q => ?_) (fun q => ?_)
  · obtain ⟨j, rfl⟩ : ∃ j, k = j + 1 := ⟨k - 1, by simp at q; omega⟩
    have e1 : IntKind.u64.wrap (8 * ((j + 1 : Nat) : Int) - 8) = ((8 * j : Nat) : Int) := by rw [u64_id (by omega) (by omega)]; omega
    have e2 : IntKind.i64.wrap (8 * ((j + 1 : Nat) : Int) - 8 - 8) = 8 * (j : Int) - 8 := by rw [i64_id (by omega) (by omega)]; omega
    have e3 := fdiv_be v j (by omega)
    simp [go_sem] at e1 e2
    simp [go_sem, e1, e2]
    refine wneed_i (by omega) ?_
    have e4 : min (8 * (j : Int)).toNat 64 = 8 * j := by omega
    simp [go_sem, e4, e3]
    refine wneed_i ⟨byteRows_len out, by rw [byteRows_len]; unfold maxB at hb0; omega, uni_one rfl⟩ ?_
    simp [go_sem, e2]
    rw [be] at hout
    refine next_i (j, out ++ [UInt8.ofNat (v / 256 ^ j)]) ⟨by simp only; omega, ⟨by simp only; omega, by simpa using hout⟩, at_n 1 (by simp) rfl rfl (Nat.zero_le _) (args_lt_eq (by simp [go_sem, byteRows, e2]) rfl)⟩
  · have : k = 0 := by simp at q; omega
    subst this
    rw [show be v 0 = [] from rfl, List.append_nil] at hout
    simp [go_sem]
    rw [← hout]
    exact wret_0 (argS_tup (vs' := [bys out, .int .i64 0]) ⟨argA_ro, argA_no rfl, trivial⟩) ⟨rfl, rfl⟩
end Go.Proofs.Ytpemcnbblcobgaa
