/-
  Contracts of functions that the claimed statement reaches, each proved over trees (the library Vx); used by the theorem at the end of the claim.
  Conditions: as each theorem states them.
-/
import Derived.Test.YtpemcnbblcobgaaRwH
namespace Go.Proofs.Ytpemcnbblcobgaa
open Go Go.Vx
set_option maxRecDepth 100000

/-- A number whose sign stands last, read. -/
def zagF (u : Nat) : Int := if u % 2 = 0 then ((u / 2 : Nat) : Int) else -((u / 2 : Nat) : Int) - 1

theorem refZag_w (u : Nat) (hu : u < 18446744073709551616) : Pure Try.prog 57 [.int .u64 u] (.int .i64 (zagF u)) := by
  have e0 : (u : Int).tmod 2 = (u : Int) % 2 := Int.tmod_eq_emod_of_nonneg (by omega)
  have e1 : (u : Int).tdiv 2 = (u : Int) / 2 := Int.tdiv_eq_ediv_of_nonneg (by omega)
  have e2 : IntKind.u64.wrap ((u : Int) / 2) = (u : Int) / 2 := u64_id (by omega) (by omega)
  have e3 : IntKind.i64.wrap ((u : Int) / 2) = (u : Int) / 2 := i64_id (by omega) (by omega)
  have e4 : IntKind.i64.wrap (-((u : Int) / 2)) = -((u : Int) / 2) := i64_id (by omega) (by omega)
  have e5 : IntKind.i64.wrap (-((u : Int) / 2) - 1) = -((u : Int) / 2) - 1 := i64_id (by omega) (by omega)
  refine VCalls.intro 0 Try.func57 Try.ntmps57 Try.results57 rfl rfl (Nat.le_of_ble_eq_true rfl) fun c hc hb => wcode_of ?_
  simp [go_sem, e0]
  refine wcond_i (fun h => ?_) (fun h => ?_)
  · have h : u % 2 = 0 := by have : (u : Int) % 2 = 0 := by simpa using h
                             omega
    simp [go_sem, e1, e2, e3]
    exact wret_0 (argS_no rfl) ⟨by simp [zagF, h], rfl⟩
  · have h : ¬ u % 2 = 0 := by have : ¬ (u : Int) % 2 = 0 := by simpa using h
                               omega
    simp [go_sem, e1, e2, e3, e4, e5]
    exact wret_0 (argS_no rfl) ⟨by simp [zagF, h], rfl⟩

/-- A value read: the value, how many bytes it has, why not. -/
structure TakeR where
  v : GValue
  n : Nat
  e : Int
def TakeR.V (r : TakeR) : V := .tup [.agg r.v.row, .int .i64 r.n, .int .i64 r.e]
def v0 : GValue := ⟨0, 0, []⟩

def takeBoolF (b : List UInt8) : TakeR :=
  if b.length < 2 then ⟨v0, 0, 2⟩ else if 1 < (b.getD 1 0).toNat then ⟨v0, 0, 9⟩ else ⟨⟨1, (b.getD 1 0).toNat, []⟩, 2, 0⟩

theorem take_ret {r : TakeR} {k m : Int} {s : List UInt8} {n : Nat} {e : Int} {σ : St} (h : r = ⟨⟨k, m, s⟩, n, e⟩) :
    wret (some (.tup [.agg [.int .i64 k, .int .i64 m, .str s], .int .i64 n, .int .i64 e])) 0 (fun v s => v = r.V ∧ s = []) σ := by
  subst h
  exact wret_0 (argS_no rfl) ⟨rfl, rfl⟩

theorem takeBool_w (b : List UInt8) (hb0 : b.length ≤ maxB) : Pure Try.prog 53 [bys b] (takeBoolF b).V := by
  refine VCalls.intro 0 Try.func53 Try.ntmps53 Try.results53 rfl rfl (Nat.le_of_ble_eq_true rfl) fun c hc hb => wcode_of ?_
  simp [go_sem, bys, byteRows_len]
  refine wcond_i (fun h => ?_) (fun h => ?_)
  · have h : b.length < 2 := by have := of_decide_eq_true h; omega
    simp [go_sem]
    exact take_ret (n := 0) (by simp [takeBoolF, h, v0])
  have h : ¬ b.length < 2 := by have := of_decide_eq_false h; omega
  have h1 : 1 < b.length := by omega
  obtain ⟨c0, hc0⟩ : ∃ c, b[1] = c := ⟨_, rfl⟩
  have hc2 : b.getD 1 0 = c0 := by rw [List.getD_eq_getElem?_getD, List.getElem?_eq_getElem h1, hc0]; rfl
  have e1 : IntKind.i64.wrap (c0.toNat : Int) = (c0.toNat : Int) := i64_id (by omega) (by have := c0.toNat_lt; omega)
  simp [go_sem, byteRows_len, h1, byteRows_at, hc0]
  refine wneed_i (by omega) ?_
  simp [go_sem]
  refine wcond_i (fun h2 => ?_) (fun h2 => ?_)
  · have h2 : 1 < c0.toNat := by have := of_decide_eq_true h2; omega
    simp [go_sem]
    exact take_ret (n := 0) (by simp only [takeBoolF, hc2]; rw [if_neg h, if_pos h2]; rfl)
  · have h2 : ¬ 1 < c0.toNat := by have := of_decide_eq_false h2; omega
    simp [go_sem, byteRows_len, h1, byteRows_at, hc0, e1]
    refine wneed_i (by omega) ?_
    simp [go_sem, e1]
    exact take_ret (n := 2) (by simp only [takeBoolF, hc2]; rw [if_neg h, if_neg h2])

theorem xorI_0 {x : Int} (h : 0 ≤ x) (h2 : x ≤ 9223372036854775807) : bitsV .xor .i64 x 0 = x := by
  obtain ⟨m, rfl⟩ := Int.eq_ofNat_of_zero_le h
  show IntKind.i64.wrap ((BitVec.ofInt 64 (m : Int) ^^^ BitVec.ofInt 64 0).toNat : Int) = m
  have e : BitVec.ofInt 64 (0 : Int) = 0#64 := rfl
  rw [e, BitVec.xor_zero, BitVec.ofInt_natCast, BitVec.toNat_ofNat, Nat.mod_eq_of_lt (by omega)]
  exact i64_id (by omega) (by omega)
theorem xorI_1 {x : Int} (h : 0 ≤ x) (h2 : x ≤ 9223372036854775807) : bitsV .xor .i64 x (-1) = -x - 1 := by
  obtain ⟨m, rfl⟩ := Int.eq_ofNat_of_zero_le h
  show IntKind.i64.wrap ((BitVec.ofInt 64 (m : Int) ^^^ BitVec.ofInt 64 (-1)).toNat : Int) = _
  have e : BitVec.ofInt 64 (-1 : Int) = BitVec.allOnes 64 := by decide +kernel
  rw [e, BitVec.xor_allOnes, BitVec.ofInt_natCast, BitVec.toNat_not, BitVec.toNat_ofNat, Nat.mod_eq_of_lt (by omega)]
  rw [IntKind.wrap_i64]
  omega
theorem and_1 {m : Nat} (h : m < 18446744073709551616) : bitsV .and .u64 (m : Int) 1 = (m : Int) % 2 := by
  show IntKind.u64.wrap ((BitVec.ofInt 64 (m : Int) &&& BitVec.ofInt 64 1).toNat : Int) = _
  have e : BitVec.ofInt 64 (1 : Int) = 1#64 := rfl
  rw [e, BitVec.ofInt_natCast, BitVec.toNat_and, BitVec.toNat_ofNat, Nat.mod_eq_of_lt (by omega)]
  have e2 : m &&& (1#64).toNat = m % 2 := Nat.and_one_is_mod m
  rw [e2, u64_id (by omega) (by omega)]
  omega

theorem Zag_w (u : Nat) (hu : u < 18446744073709551616) : Pure Try.prog 54 [.int .u64 u] (.int .i64 (zagF u)) := by
  have e0 := and_1 hu
  have e1 : (u : Int).fdiv 2 = (u : Int) / 2 := Int.fdiv_eq_ediv_of_nonneg _ (by omega)
  have e3 : IntKind.i64.wrap ((u : Int) / 2) = (u : Int) / 2 := i64_id (by omega) (by omega)
  have e4 : IntKind.i64.wrap ((u : Int) % 2) = (u : Int) % 2 := i64_id (by omega) (by omega)
  have e5 : IntKind.i64.wrap (-((u : Int) % 2)) = -((u : Int) % 2) := i64_id (by omega) (by omega)
  have e6 : bitsV .xor .i64 ((u : Int) / 2) (-((u : Int) % 2)) = zagF u := by
    unfold zagF
    by_cases h : u % 2 = 0
    · rw [if_pos h, show -((u : Int) % 2) = 0 by omega, xorI_0 (by omega) (by omega)]; omega
    · rw [if_neg h, show -((u : Int) % 2) = -1 by omega, xorI_1 (by omega) (by omega)]; omega
  refine VCalls.intro 0 Try.func54 Try.ntmps54 Try.results54 rfl rfl (Nat.le_of_ble_eq_true rfl) fun c hc hb => wcode_of ?_
  simp [go_sem, e0, e1, e3, e4, e5, e6]
  exact wret_0 (argS_no rfl) ⟨rfl, rfl⟩
end Go.Proofs.Ytpemcnbblcobgaa
