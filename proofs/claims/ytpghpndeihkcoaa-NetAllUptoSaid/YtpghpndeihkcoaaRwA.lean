/-
  Contracts of functions that the claimed statement reaches, each proved over trees (the library Vx); used by the theorem at the end of the claim.
  Conditions: as each theorem states them.
-/
import Derived.Test.YtpghpndeihkcoaaDat
import Derived.Test.YtpghpndeihkcoaaVxU
namespace Go.Proofs.Ytpghpndeihkcoaa
open Go Go.Vx
set_option maxRecDepth 100000

/-- Bytes, as a slice that is only read. -/
def bys (l : List UInt8) : V := .sl .ro (byteRows l)
theorem byteRows_len (l : List UInt8) : (byteRows l).length = l.length := by simp [byteRows]
theorem byteRows_append (a b : List UInt8) : byteRows (a ++ b) = byteRows a ++ byteRows b := by simp [byteRows]
theorem byteRows_one (b : UInt8) : byteRows [b] = [[.int .u8 b.toNat]] := rfl
theorem byteRows_u (l : List UInt8) : uni 1 (byteRows l) := fun r hr => by
  obtain ⟨x, _, rfl⟩ := List.mem_map.1 hr
  rfl
/-- Bytes that one may append to. -/
def byA (l : List UInt8) : V := .sl (.app 0) (byteRows l)
def stA (l : List UInt8) : St := [.app l.length 1]

/-- What a list of bytes may take. -/
abbrev maxB : Nat := 1000000000

/-- A number, seven bits a byte. -/
def varF (v : Nat) : List UInt8 := if v < 128 then [UInt8.ofNat v] else UInt8.ofNat (v % 128 + 128) :: varF (v / 128)
termination_by v
decreasing_by omega

theorem varF_lt {v : Nat} (h : v < 128) : varF v = [UInt8.ofNat v] := by rw [varF, if_pos h]
theorem varF_ge {v : Nat} (h : ¬ v < 128) : varF v = UInt8.ofNat (v % 128 + 128) :: varF (v / 128) := by rw [varF, if_neg h]
theorem varF_le : ∀ (k v : Nat), v < 128 ^ (k + 1) → (varF v).length ≤ k + 1
  | 0, v, h => by rw [varF_lt (by omega)]; simp
  | k + 1, v, h => by
    by_cases hv : v < 128
    · rw [varF_lt hv]; simp
    · rw [varF_ge hv, List.length_cons]
      have := varF_le k (v / 128) (by rw [Nat.div_lt_iff_lt_mul (by omega)]; rwa [Nat.pow_succ] at h)
      omega
theorem varF_10 {v : Nat} (h : v < 18446744073709551616) : (varF v).length ≤ 10 := varF_le 9 v (by omega)

/-- What goes round in Var: the bytes so far, the number that is left. -/
structure VarS where
  out : List UInt8
  v : Nat

theorem u64_id {n : Int} (h : 0 ≤ n) (h2 : n ≤ 18446744073709551615) : IntKind.u64.wrap n = n := by
  unfold IntKind.wrap
  simp [IntKind.bits, IntKind.signed]
  omega
theorem u8_nat (n : Nat) : IntKind.u8.wrap (n : Int) = ((UInt8.ofNat n).toNat : Int) := by
  unfold IntKind.wrap
  simp [IntKind.bits, IntKind.signed]
theorem u8_more (v : Nat) : IntKind.u8.wrap (IntKind.u8.wrap ((v : Int).tmod 128) + 128) = ((UInt8.ofNat (v % 128 + 128)).toNat : Int) := by
  have e : (v : Int).tmod 128 = ((v % 128 : Nat) : Int) := by rw [Int.tmod_eq_emod_of_nonneg (by omega)]; omega
  have e2 : IntKind.u8.wrap (((v % 128 : Nat) : Int)) = ((v % 128 : Nat) : Int) := by
    rw [u8_nat]
    simp
    omega
  rw [e, e2, show (((v % 128 : Nat) : Int) + 128) = ((v % 128 + 128 : Nat) : Int) by omega, u8_nat]
theorem stA_push (l : List UInt8) (x : UInt8) : stA (l ++ [x]) = [.app (l.length + 1) 1] := by simp [stA]
theorem byA_push (l : List UInt8) (x : UInt8) : byA (l ++ [x]) = .sl (.app 0) (byteRows l ++ [[.int .u8 x.toNat]]) := by simp [byA, byteRows]

theorem refVar_w (b : List UInt8) (v0 : Nat) (hb0 : b.length ≤ maxB) (hv : v0 < 18446744073709551616) : VCalls Try.prog 38 [bys b, .int .u64 v0] [] fun r s => r = byA (b ++ varF v0) ∧ s = stA (b ++ varF v0) := by
  refine VCalls.introV 0 Try.func38 Try.ntmps38 Try.results38 rfl rfl (Nat.le_of_ble_eq_true rfl) fun c hc hb => ?_
  refine wVW_code ?_
  simp [go_sem, bys, byteRows_len]
  refine wneed_i ⟨by unfold maxB at *; omega, by simp [uni], byteRows_u b⟩ ?_
  simp [go_sem, byteRows_len]
  refine wVW_while (S := VarS) [1, 5] (fun s => [.int .u64 s.v, byA s.out]) (fun s => stA s.out) (fun s => s.v) (fun s => s.v < 18446744073709551616 ∧ s.out ++ varF s.v = b ++ varF v0) hc hb ⟨b, v0⟩ ⟨hv, rfl⟩ ?_ ?_
  · exact at_n 1 (by simp [stA]) rfl rfl (Nat.zero_le _) (args_lt_eq (by simp [go_sem, byA]) rfl)
  rintro ⟨out, v⟩ ⟨hv1, hs⟩
  simp only at hv1 hs
  have hlen : out.length ≤ maxB + 10 := by
    have := congrArg List.length hs
    have h10 := varF_10 hv
    simp only [List.length_append] at this
    omega
  refine wVW_code ?_
  simp [go_sem, byA, stA]
  refine wcond_i (fun h => ?_) (fun h => ?_)
  · have h : ¬ v < 128 := by have := of_decide_eq_true h; omega
    simp [go_sem, u8_more]
    refine wneed_i ⟨byteRows_len out, by rw [byteRows_len]; unfold maxB at *; omega, uni_one rfl⟩ ?_
    have e4 : IntKind.u64.wrap ((v : Int).tdiv 128) = ((v / 128 : Nat) : Int) := by
      have : (v : Int).tdiv 128 = ((v / 128 : Nat) : Int) := by rw [Int.tdiv_eq_ediv_of_nonneg (by omega)]; omega
      rw [this, u64_id (by omega) (by omega)]
    have e5 : IntKind.u64.wrap ((v : Int) / 128) = (v : Int) / 128 := u64_id (by omega) (by omega)
    simp [go_sem, e4]
    rw [varF_ge h] at hs
    refine next_i ⟨out ++ [UInt8.ofNat (v % 128 + 128)], v / 128⟩ ⟨by simp only; omega, ⟨by simp only; omega, by simpa using hs⟩, at_n 1 (by simp) rfl rfl (Nat.zero_le _) (args_lt_eq (by simp [go_sem, byteRows, e5]) rfl)⟩
  · have h : v < 128 := by have := of_decide_eq_false h; omega
    simp [go_sem, byteRows_len, u8_nat]
    refine wneed_i ⟨by unfold maxB at *; omega, uni_one rfl⟩ ?_
    simp [go_sem]
    rw [varF_lt h] at hs
    have hs2 : b.length + (varF v0).length = out.length + 1 := by
      have := congrArg List.length hs
      simpa using this.symm
    rw [← hs]
    exact wret_n 1 rfl rfl (by omega) (argS_lt rfl) ⟨by simp [byteRows], by simp [hs2]⟩
end Go.Proofs.Ytpghpndeihkcoaa
