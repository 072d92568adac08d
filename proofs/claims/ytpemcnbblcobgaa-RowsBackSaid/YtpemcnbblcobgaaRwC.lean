/-
  Contracts of functions that the claimed statement reaches, each proved over trees (the library Vx); used by the theorem at the end of the claim.
  Conditions: as each theorem states them.
-/
import Derived.Test.YtpemcnbblcobgaaRwA
namespace Go.Proofs.Ytpemcnbblcobgaa
open Go Go.Vx
set_option maxRecDepth 100000

theorem or_all : ((List.range 256).all fun m => bitsV .or .u8 (m : Int) 128 == ((m % 128 + 128 : Nat) : Int)) = true := by decide +kernel
theorem u8_or (v : Nat) : bitsV .or .u8 (IntKind.u8.wrap (v : Int)) 128 = ((UInt8.ofNat (v % 128 + 128)).toNat : Int) := by
  have h := List.all_eq_true.1 or_all (v % 256) (List.mem_range.2 (by omega))
  have e : IntKind.u8.wrap (v : Int) = ((v % 256 : Nat) : Int) := by rw [u8_nat]; simp
  rw [e, beq_iff_eq.1 h]
  simp
  omega

theorem Var_w (b : List UInt8) (v0 : Nat) (hb0 : b.length ≤ maxB) (hv : v0 < 18446744073709551616) : VCalls Try.prog 39 [bys b, .int .u64 v0] [] fun r s => r = byA (b ++ varF v0) ∧ s = stA (b ++ varF v0) := by
  refine VCalls.introV 0 Try.func39 Try.ntmps39 Try.results39 rfl rfl (Nat.le_of_ble_eq_true rfl) fun c hc hb => ?_
  refine wVW_code ?_
  simp [go_sem]
  refine wVC_new0 (room_w b 10 hb0 (by decide)) Try.callB59 (args_no rfl) ?_
  rintro r s ⟨rfl, rfl⟩
  simp [go_sem]
  refine wVW_while (S := VarS) [1, 5] (fun s => [.int .u64 s.v, byA s.out]) (fun s => stA s.out) (fun s => s.v) (fun s => s.v < 18446744073709551616 ∧ s.out ++ varF s.v = b ++ varF v0) hc hb ⟨b, v0⟩ ⟨hv, rfl⟩ ?_ ?_
  · exact at_n 1 rfl rfl rfl (Nat.zero_le _) (args_lt_eq (by simp [go_sem]) rfl)
  rintro ⟨out, v⟩ ⟨hv1, hs⟩
  simp only at hv1 hs
  have hlen : out.length ≤ maxB + 10 := by
    have := congrArg List.length hs
    have h10 := varF_10 hv
    simp only [List.length_append] at this
    omega
  refine wVW_code ?_
  simp [go_sem, byA, stA]
  refine wcond_i (fun h => ?_) (fun h => ?_)
  · have h : ¬ v < 128 := by have := of_decide_eq_true h; omega
    have u1 := u8_or v
    simp [go_sem, u1]
    refine wneed_i ⟨byteRows_len out, by rw [byteRows_len]; unfold maxB at *; omega, uni_one rfl⟩ ?_
    have e5 : (v : Int).fdiv 128 = (v : Int) / 128 := Int.fdiv_eq_ediv_of_nonneg _ (by omega)
    simp [go_sem, e5]
    rw [varF_ge h] at hs
    refine next_i ⟨out ++ [UInt8.ofNat (v % 128 + 128)], v / 128⟩ ⟨by simp only; omega, ⟨by simp only; omega, by simpa using hs⟩, at_n 1 (by simp) rfl rfl (Nat.zero_le _) (args_lt_eq (by simp [go_sem, byteRows]) rfl)⟩
  · have h : v < 128 := by have := of_decide_eq_false h; omega
    simp [go_sem, byteRows_len, u8_nat]
    refine wneed_i ⟨by unfold maxB at *; omega, uni_one rfl⟩ ?_
    simp [go_sem]
    rw [varF_lt h] at hs
    have hs2 : b.length + (varF v0).length = out.length + 1 := by
      have := congrArg List.length hs
      simpa using this.symm
    rw [← hs]
    exact wret_n 1 rfl rfl (by omega) (argS_lt rfl) ⟨by simp [byteRows], by simp [hs2]⟩

theorem Text_w (b t : List UInt8) (hb0 : b.length ≤ maxB) (ht : t.length ≤ maxB) : VCalls Try.prog 61 [bys b, bys t] [] fun r s => r = byA (b ++ varF t.length ++ t) ∧ s = stA (b ++ varF t.length ++ t) := by
  refine VCalls.intro 0 Try.func61 Try.ntmps61 Try.results61 rfl rfl (Nat.le_of_ble_eq_true rfl) fun c hc hb => wcode_of ?_
  have e1 : IntKind.u64.wrap (t.length : Int) = (t.length : Int) := u64_id (by omega) (by unfold maxB at *; omega)
  simp [go_sem, bys, byteRows_len, e1]
  refine wVC_new0 (Var_w b t.length hb0 (by unfold maxB at *; omega)) Try.callB39 (args_no rfl) ?_
  rintro r s ⟨rfl, rfl⟩
  have h10 := varF_10 (v := t.length) (by unfold maxB at *; omega)
  simp [go_sem, byA, stA, byteRows_len]
  refine wneed_i ⟨by unfold maxB at *; omega, byteRows_u t⟩ ?_
  simp [go_sem]
  exact wret_n 1 rfl rfl (by omega) (argS_lt rfl) ⟨by simp [byteRows], by simp [Nat.add_assoc]⟩

theorem refText_w (b t : List UInt8) (hb0 : b.length ≤ maxB) (ht : t.length ≤ maxB) : VCalls Try.prog 63 [bys b, bys t] [] fun r s => r = byA (b ++ varF t.length ++ t) ∧ s = stA (b ++ varF t.length ++ t) := by
  refine VCalls.intro 0 Try.func63 Try.ntmps63 Try.results63 rfl rfl (Nat.le_of_ble_eq_true rfl) fun c hc hb => wcode_of ?_
  have e1 : IntKind.u64.wrap (t.length : Int) = (t.length : Int) := u64_id (by omega) (by unfold maxB at *; omega)
  simp [go_sem, bys, byteRows_len, e1]
  refine wVC_new0 (refVar_w b t.length hb0 (by unfold maxB at *; omega)) Try.callB41 (args_no rfl) ?_
  rintro r s ⟨rfl, rfl⟩
  have h10 := varF_10 (v := t.length) (by unfold maxB at *; omega)
  simp [go_sem, byA, stA, byteRows_len]
  refine wneed_i ⟨by unfold maxB at *; omega, byteRows_u t⟩ ?_
  simp [go_sem]
  exact wret_n 1 rfl rfl (by omega) (argS_lt rfl) ⟨by simp [byteRows], by simp [Nat.add_assoc]⟩

/-- A number with its sign last. -/
def zigF (n : Int) : Nat := if 0 ≤ n then (2 * n).toNat else (-2 * n - 1).toNat
theorem zigF_lt {n : Int} (h : i64R n) : zigF n < 18446744073709551616 := by
  unfold zigF; unfold i64R at h
  split <;> omega

theorem refZig_w (n : Int) (hn : i64R n) : Pure Try.prog 62 [.int .i64 n] (.int .u64 (zigF n)) := by
  refine VCalls.intro 0 Try.func62 Try.ntmps62 Try.results62 rfl rfl (Nat.le_of_ble_eq_true rfl) fun c hc hb => wcode_of ?_
  unfold i64R at hn
  simp [go_sem]
  refine wcond_i (fun h => ?_) (fun h => ?_)
  · have h : 0 ≤ n := of_decide_eq_true h
    have e1 : IntKind.u64.wrap n = n := u64_id h (by omega)
    have e2 : IntKind.u64.wrap (2 * n) = ((zigF n : Nat) : Int) := by rw [u64_id (by omega) (by omega), zigF, if_pos h]; omega
    simp [go_sem, e1, e2]
    exact wret_0 (argS_no rfl) ⟨rfl, rfl⟩
  · have h : ¬ 0 ≤ n := of_decide_eq_false h
    obtain ⟨m, rfl⟩ : ∃ m : Nat, n = -(m : Int) - 1 := ⟨(-n - 1).toNat, by omega⟩
    have e1 : IntKind.i64.wrap (-(m : Int)) = -(m : Int) := i64_id (by omega) (by omega)
    have e2 : IntKind.i64.wrap (m : Int) = (m : Int) := i64_id (by omega) (by omega)
    have e3 : IntKind.u64.wrap (m : Int) = (m : Int) := u64_id (by omega) (by omega)
    have e4 : IntKind.u64.wrap (2 * (m : Int)) = 2 * (m : Int) := u64_id (by omega) (by omega)
    have e5 : IntKind.u64.wrap (2 * (m : Int) + 1) = ((zigF (-(m : Int) - 1) : Nat) : Int) := by rw [u64_id (by omega) (by omega), zigF, if_neg h]; omega
    simp [go_sem, e1, e2, e3, e4, e5]
    exact wret_0 (argS_no rfl) ⟨rfl, rfl⟩

theorem shr_i (ek : Nat) (es : Option (List Pk)) (a b : Int) : evBin .shr ek es (.int .i64 a) (.int .u64 b) = .need (0 ≤ b) (.int .i64 (a.fdiv (2 ^ (min b.toNat 64)))) := rfl
theorem xor_0 {x : Int} (h : 0 ≤ x) (h2 : x ≤ 18446744073709551615) : bitsV .xor .u64 x 0 = x := by
  obtain ⟨m, rfl⟩ := Int.eq_ofNat_of_zero_le h
  show IntKind.u64.wrap ((BitVec.ofInt 64 (m : Int) ^^^ BitVec.ofInt 64 0).toNat : Int) = m
  have e : BitVec.ofInt 64 (0 : Int) = 0#64 := rfl
  rw [e, BitVec.xor_zero, BitVec.ofInt_natCast, BitVec.toNat_ofNat, Nat.mod_eq_of_lt (by omega)]
  exact u64_id (by omega) (by omega)
theorem xor_1 {x : Int} (h : 0 ≤ x) (h2 : x ≤ 18446744073709551615) : bitsV .xor .u64 x 18446744073709551615 = 18446744073709551615 - x := by
  obtain ⟨m, rfl⟩ := Int.eq_ofNat_of_zero_le h
  show IntKind.u64.wrap ((BitVec.ofInt 64 (m : Int) ^^^ BitVec.ofInt 64 18446744073709551615).toNat : Int) = _
  have e : BitVec.ofInt 64 (18446744073709551615 : Int) = BitVec.allOnes 64 := by decide +kernel
  rw [e, BitVec.xor_allOnes, BitVec.ofInt_natCast, BitVec.toNat_not, BitVec.toNat_ofNat, Nat.mod_eq_of_lt (by omega)]
  rw [u64_id (by omega) (by omega)]
  omega

theorem Zig_w (n : Int) (hn : i64R n) : Pure Try.prog 60 [.int .i64 n] (.int .u64 (zigF n)) := by
  refine VCalls.intro 0 Try.func60 Try.ntmps60 Try.results60 rfl rfl (Nat.le_of_ble_eq_true rfl) fun c hc hb => wcode_of ?_
  unfold i64R at hn
  rcases Int.lt_or_le n 0 with h | h
  · have e1 : IntKind.u64.wrap n = n + 18446744073709551616 := by rw [IntKind.wrap_u64]; omega
    have e2 : IntKind.u64.wrap ((n + 18446744073709551616) * 2) = 2 * n + 18446744073709551616 := by rw [IntKind.wrap_u64]; omega
    have e3 : n.fdiv 9223372036854775808 = -1 := by rw [Int.fdiv_eq_ediv_of_nonneg _ (by omega)]; omega
    have e4 : IntKind.u64.wrap (-1) = 18446744073709551615 := by decide +kernel
    have e5 : bitsV .xor .u64 (2 * n + 18446744073709551616) 18446744073709551615 = ((zigF n : Nat) : Int) := by
      rw [xor_1 (by omega) (by omega), zigF, if_neg (by omega)]; omega
    simp [go_sem, e1, e2, shr_i, e3, e4, e5]
    exact wret_0 (argS_no rfl) ⟨rfl, rfl⟩
  · have e1 : IntKind.u64.wrap n = n := u64_id h (by omega)
    have e2 : IntKind.u64.wrap (n * 2) = 2 * n := by rw [u64_id (by omega) (by omega)]; omega
    have e3 : n.fdiv 9223372036854775808 = 0 := by rw [Int.fdiv_eq_ediv_of_nonneg _ (by omega)]; omega
    have e4 : IntKind.u64.wrap 0 = 0 := u64_id (by omega) (by omega)
    have e5 : bitsV .xor .u64 (2 * n) 0 = ((zigF n : Nat) : Int) := by
      rw [xor_0 (by omega) (by omega), zigF, if_pos h]; omega
    simp [go_sem, e1, e2, shr_i, e3, e4, e5]
    exact wret_0 (argS_no rfl) ⟨rfl, rfl⟩
end Go.Proofs.Ytpemcnbblcobgaa
