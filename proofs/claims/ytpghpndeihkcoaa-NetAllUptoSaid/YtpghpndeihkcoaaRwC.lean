/-
  Contracts of functions that the claimed statement reaches, each proved over trees (the library Vx); used by the theorem at the end of the claim.
  Conditions: as each theorem states them.
-/
import Derived.Test.YtpghpndeihkcoaaRwA
namespace Go.Proofs.Ytpghpndeihkcoaa
open Go Go.Vx
set_option maxRecDepth 100000

theorem or_all : ((List.range 256).all fun m => bitsV .or .u8 (m : Int) 128 == ((m % 128 + 128 : Nat) : Int)) = true := by decide +kernel
theorem u8_or (v : Nat) : bitsV .or .u8 (IntKind.u8.wrap (v : Int)) 128 = ((UInt8.ofNat (v % 128 + 128)).toNat : Int) := by
  have h := List.all_eq_true.1 or_all (v % 256) (List.mem_range.2 (by omega))
  have e : IntKind.u8.wrap (v : Int) = ((v % 256 : Nat) : Int) := by rw [u8_nat]; simp
  rw [e, beq_iff_eq.1 h]
  simp
  omega

theorem refText_w (b t : List UInt8) (hb0 : b.length ≤ maxB) (ht : t.length ≤ maxB) : VCalls Try.prog 41 [bys b, bys t] [] fun r s => r = byA (b ++ varF t.length ++ t) ∧ s = stA (b ++ varF t.length ++ t) := by
  refine VCalls.intro 0 Try.func41 Try.ntmps41 Try.results41 rfl rfl (Nat.le_of_ble_eq_true rfl) fun c hc hb => wcode_of ?_
  have e1 : IntKind.u64.wrap (t.length : Int) = (t.length : Int) := u64_id (by omega) (by unfold maxB at *; omega)
  simp [go_sem, bys, byteRows_len, e1]
  refine wVC_new0 (refVar_w b t.length hb0 (by unfold maxB at *; omega)) Try.callB38 (args_no rfl) ?_
  rintro r s ⟨rfl, rfl⟩
  have h10 := varF_10 (v := t.length) (by unfold maxB at *; omega)
  simp [go_sem, byA, stA, byteRows_len]
  refine wneed_i ⟨by unfold maxB at *; omega, byteRows_u t⟩ ?_
  simp [go_sem]
  exact wret_n 1 rfl rfl (by omega) (argS_lt rfl) ⟨by simp [byteRows], by simp [Nat.add_assoc]⟩

/-- A number with its sign last. -/
def zigF (n : Int) : Nat := if 0 ≤ n then (2 * n).toNat else (-2 * n - 1).toNat
theorem zigF_lt {n : Int} (h : i64R n) : zigF n < 18446744073709551616 := by
  unfold zigF; unfold i64R at h
  split <;> omega

theorem refZig_w (n : Int) (hn : i64R n) : Pure Try.prog 39 [.int .i64 n] (.int .u64 (zigF n)) := by
  refine VCalls.intro 0 Try.func39 Try.ntmps39 Try.results39 rfl rfl (Nat.le_of_ble_eq_true rfl) fun c hc hb => wcode_of ?_
  unfold i64R at hn
  simp [go_sem]
  refine wcond_i (fun h => ?_) (fun h => ?_)
  · have h : 0 ≤ n := of_decide_eq_true h
    have e1 : IntKind.u64.wrap n = n := u64_id h (by omega)
    have e2 : IntKind.u64.wrap (2 * n) = ((zigF n : Nat) : Int) := by rw [u64_id (by omega) (by omega), zigF, if_pos h]; omega
    simp [go_sem, e1, e2]
    exact wret_0 (argS_no rfl) ⟨rfl, rfl⟩
  · have h : ¬ 0 ≤ n := of_decide_eq_false h
    obtain ⟨m, rfl⟩ : ∃ m : Nat, n = -(m : Int) - 1 := ⟨(-n - 1).toNat, by omega⟩
    have e1 : IntKind.i64.wrap (-(m : Int)) = -(m : Int) := i64_id (by omega) (by omega)
    have e2 : IntKind.i64.wrap (m : Int) = (m : Int) := i64_id (by omega) (by omega)
    have e3 : IntKind.u64.wrap (m : Int) = (m : Int) := u64_id (by omega) (by omega)
    have e4 : IntKind.u64.wrap (2 * (m : Int)) = 2 * (m : Int) := u64_id (by omega) (by omega)
    have e5 : IntKind.u64.wrap (2 * (m : Int) + 1) = ((zigF (-(m : Int) - 1) : Nat) : Int) := by rw [u64_id (by omega) (by omega), zigF, if_neg h]; omega
    simp [go_sem, e1, e2, e3, e4, e5]
    exact wret_0 (argS_no rfl) ⟨rfl, rfl⟩

theorem shr_i (ek : Nat) (es : Option (List Pk)) (a b : Int) : evBin .shr ek es (.int .i64 a) (.int .u64 b) = .need (0 ≤ b) (.int .i64 (a.fdiv (2 ^ (min b.toNat 64)))) := rfl
theorem xor_0 {x : Int} (h : 0 ≤ x) (h2 : x ≤ 18446744073709551615) : bitsV .xor .u64 x 0 = x := by
  obtain ⟨m, rfl⟩ := Int.eq_ofNat_of_zero_le h
  show IntKind.u64.wrap ((BitVec.ofInt 64 (m : Int) ^^^ BitVec.ofInt 64 0).toNat : Int) = m
  have e : BitVec.ofInt 64 (0 : Int) = 0#64 := rfl
  rw [e, BitVec.xor_zero, BitVec.ofInt_natCast, BitVec.toNat_ofNat, Nat.mod_eq_of_lt (by omega)]
  exact u64_id (by omega) (by omega)
theorem xor_1 {x : Int} (h : 0 ≤ x) (h2 : x ≤ 18446744073709551615) : bitsV .xor .u64 x 18446744073709551615 = 18446744073709551615 - x := by
  obtain ⟨m, rfl⟩ := Int.eq_ofNat_of_zero_le h
  show IntKind.u64.wrap ((BitVec.ofInt 64 (m : Int) ^^^ BitVec.ofInt 64 18446744073709551615).toNat : Int) = _
  have e : BitVec.ofInt 64 (18446744073709551615 : Int) = BitVec.allOnes 64 := by decide +kernel
  rw [e, BitVec.xor_allOnes, BitVec.ofInt_natCast, BitVec.toNat_not, BitVec.toNat_ofNat, Nat.mod_eq_of_lt (by omega)]
  rw [u64_id (by omega) (by omega)]
  omega

end Go.Proofs.Ytpghpndeihkcoaa
