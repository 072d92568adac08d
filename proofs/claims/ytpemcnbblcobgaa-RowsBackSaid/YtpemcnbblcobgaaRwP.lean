/-
  Contracts of functions that the claimed statement reaches, each proved over trees (the library Vx); used by the theorem at the end of the claim.
  Conditions: as each theorem states them.
-/
import Derived.Test.YtpemcnbblcobgaaRwO
namespace Go.Proofs.Ytpemcnbblcobgaa
open Go Go.Vx
set_option maxRecDepth 100000

/-- The last k bytes of a number, the greatest first. -/
def be (v : Nat) : Nat → List UInt8
  | 0 => []
  | k + 1 => UInt8.ofNat (v / 256 ^ k) :: be v k

theorem be_len (v : Nat) : ∀ k, (be v k).length = k
  | 0 => rfl
  | k + 1 => by simp [be, be_len v k]

theorem bl_cons (a b : UInt8) (l m : List UInt8) : Op.bytesLess (a :: l) (b :: m) = if a.toNat < b.toNat then true else if b.toNat < a.toNat then false else Op.bytesLess l m := by
  rw [Op.bytesLess]
  simp only [UInt8.lt_iff_toNat_lt]
  by_cases h1 : a.toNat < b.toNat
  · simp [h1]
  · by_cases h2 : b.toNat < a.toNat
    · have : a ≠ b := fun h => by subst h; omega
      simp [h1, h2, this]
    · have : a = b := UInt8.toNat_inj.1 (by omega)
      simp [this]

theorem bl_app : ∀ (p a b : List UInt8), Op.bytesLess (p ++ a) (p ++ b) = Op.bytesLess a b
  | [], a, b => rfl
  | x :: p, a, b => by
    rw [List.cons_append, List.cons_append, bl_cons, if_neg (Nat.lt_irrefl _), if_neg (Nat.lt_irrefl _), bl_app p a b]

theorem be_less (u w : Nat) : ∀ k, Op.bytesLess (be u k) (be w k) = decide (u % 256 ^ k < w % 256 ^ k)
  | 0 => by simp [be, Op.bytesLess, Nat.mod_one]
  | k + 1 => by
    have hk : 0 < 256 ^ k := Nat.pow_pos (by decide)
    rw [be, be, bl_cons, be_less u w k, Nat.pow_succ, Nat.mod_mul, Nat.mod_mul, UInt8.toNat_ofNat', UInt8.toNat_ofNat']
    have h1 := Nat.mod_lt u hk
    have h2 := Nat.mod_lt w hk
    generalize u % 256 ^ k = x at *
    generalize w % 256 ^ k = y at *
    have e : ∀ z : Nat, z % 2 ^ 8 = z % 256 := fun z => rfl
    rw [e, e]
    generalize u / 256 ^ k % 256 = a
    generalize w / 256 ^ k % 256 = b
    generalize 256 ^ k = m at *
    by_cases ha : a < b
    · have : (a + 1) * m ≤ b * m := Nat.mul_le_mul_right m ha
      rw [Nat.add_mul] at this
      rw [if_pos ha, decide_eq_true]
      rw [Nat.mul_comm m a, Nat.mul_comm m b]
      omega
    · rw [if_neg ha]
      by_cases hb : b < a
      · have : (b + 1) * m ≤ a * m := Nat.mul_le_mul_right m hb
        rw [Nat.add_mul] at this
        rw [if_pos hb, eq_comm, decide_eq_false]
        rw [Nat.mul_comm m a, Nat.mul_comm m b]
        omega
      · have : a = b := by omega
        subst this
        rw [if_neg hb]
        congr 1
        exact propext ⟨fun h => by omega, fun h => by omega⟩

/-- A text in a key: the byte 0 as 0, 255; 0, 1 ends it. -/
def esc : List UInt8 → List UInt8
  | [] => []
  | c :: s => if c = 0 then 0 :: 255 :: esc s else c :: esc s
theorem esc_len : ∀ s, (esc s).length ≤ 2 * s.length
  | [] => by simp [esc]
  | c :: s => by
    have := esc_len s
    unfold esc
    split <;> simp <;> omega
theorem esc_append : ∀ a b, esc (a ++ b) = esc a ++ esc b
  | [], b => rfl
  | c :: a, b => by
    have := esc_append a b
    rw [List.cons_append, esc, esc]
    split <;> simp [this]
theorem esc_less : ∀ a b : List UInt8, Op.bytesLess (esc a ++ [0, 1]) (esc b ++ [0, 1]) = Op.bytesLess a b
  | [], [] => by decide
  | [], d :: b => by
    rw [esc, esc]
    by_cases h : d = 0
    · subst h
      rw [if_pos rfl]
      simp [bl_cons, Op.bytesLess]
    · rw [if_neg h]
      have hd : 0 < d.toNat := by
        rcases Nat.eq_zero_or_pos d.toNat with q | q
        · exact absurd (UInt8.toNat_inj.1 (by simpa using q)) h
        · exact q
      simp [bl_cons, Op.bytesLess, hd]
  | c :: a, [] => by
    rw [esc, esc]
    by_cases h : c = 0
    · subst h
      rw [if_pos rfl]
      simp [bl_cons, Op.bytesLess]
    · rw [if_neg h]
      have hd : 0 < c.toNat := by
        rcases Nat.eq_zero_or_pos c.toNat with q | q
        · exact absurd (UInt8.toNat_inj.1 (by simpa using q)) h
        · exact q
      simp [bl_cons, Op.bytesLess, hd]
  | c :: a, d :: b => by
    have ih := esc_less a b
    rw [esc, esc, bl_cons]
    by_cases hc : c = 0
    · subst hc
      by_cases hd : d = 0
      · subst hd
        simp [bl_cons, ih]
      · have hd2 : 0 < d.toNat := by
          rcases Nat.eq_zero_or_pos d.toNat with q | q
          · exact absurd (UInt8.toNat_inj.1 (by simpa using q)) hd
          · exact q
        simp [bl_cons, hd, hd2]
    · have hc2 : 0 < c.toNat := by
        rcases Nat.eq_zero_or_pos c.toNat with q | q
        · exact absurd (UInt8.toNat_inj.1 (by simpa using q)) hc
        · exact q
      by_cases hd : d = 0
      · subst hd
        simp [bl_cons, hc, hc2]
      · simp [bl_cons, hc, hd, ih]

/-- A value's key. -/
def keyF (v : GValue) : List UInt8 :=
  if mayF v = true then
    UInt8.ofNat v.kind.toNat :: (if v.kind = 1 then [UInt8.ofNat v.n.toNat] else if v.kind = 2 then be (v.n + 9223372036854775808).toNat 8 else if v.kind = 3 then esc v.s ++ [0, 1] else [])
  else []
theorem keyF_len {v : GValue} : (keyF v).length ≤ 2 * v.s.length + 10 := by
  have h := esc_len v.s
  have h2 := be_len (v.n + 9223372036854775808).toNat 8
  unfold keyF
  (repeat' split) <;> simp <;> omega
end Go.Proofs.Ytpemcnbblcobgaa
