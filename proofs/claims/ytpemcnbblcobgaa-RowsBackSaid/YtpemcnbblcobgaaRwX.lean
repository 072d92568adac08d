/-
  Plain laws: what is written is read again; keys stand as their values do.
  Conditions: as each theorem states them.
-/
import Derived.Test.YtpemcnbblcobgaaRwW
namespace Go.Proofs.Ytpemcnbblcobgaa
open Go Go.Vx
set_option maxRecDepth 100000

theorem u8_of {n : Nat} (h : n < 256) : (UInt8.ofNat n).toNat = n := by
  rw [UInt8.toNat_ofNat']
  exact Nat.mod_eq_of_lt h

theorem bl_irrefl : ∀ a : List UInt8, Op.bytesLess a a = false
  | [] => rfl
  | a :: l => by simp [Op.bytesLess, bl_irrefl l]
theorem bl_trans : ∀ a b c : List UInt8, Op.bytesLess a b = true → Op.bytesLess b c = true → Op.bytesLess a c = true
  | _, [], _, h, _ => by simp [Op.bytesLess] at h
  | _, _ :: _, [], _, h => by simp [Op.bytesLess] at h
  | [], _ :: _, _ :: _, _, _ => rfl
  | a :: l, b :: m, d :: n, h1, h2 => by
    simp only [Op.bytesLess, Bool.or_eq_true, decide_eq_true_eq, Bool.and_eq_true, beq_iff_eq] at *
    rcases h1 with h1 | ⟨rfl, h1⟩
    · rcases h2 with h2 | ⟨rfl, h2⟩
      · exact .inl (UInt8.lt_trans h1 h2)
      · exact .inl h1
    · rcases h2 with h2 | ⟨rfl, h2⟩
      · exact .inl h2
      · exact .inr ⟨rfl, bl_trans l m n h1 h2⟩
theorem bl_total : ∀ a b : List UInt8, Op.bytesLess a b = true ∨ a = b ∨ Op.bytesLess b a = true
  | [], [] => .inr (.inl rfl)
  | [], _ :: _ => .inl rfl
  | _ :: _, [] => .inr (.inr rfl)
  | a :: l, b :: m => by
    simp only [Op.bytesLess, Bool.or_eq_true, decide_eq_true_eq, Bool.and_eq_true, beq_iff_eq, List.cons.injEq]
    by_cases h : a < b
    · exact .inl (.inl h)
    · by_cases h2 : b < a
      · exact .inr (.inr (.inl h2))
      · have he : a = b := UInt8.le_antisymm (UInt8.not_lt.1 h2) (UInt8.not_lt.1 h)
        subst he
        rcases bl_total l m with q | rfl | q
        · exact .inl (.inr ⟨rfl, q⟩)
        · exact .inr (.inl ⟨rfl, rfl⟩)
        · exact .inr (.inr (.inr ⟨rfl, q⟩))

/-- A number that was written is read. -/
theorem takeG_var : ∀ (n i v : Nat) (rest : List UInt8), n < 18446744073709551616 → (n * 128 ^ i < 18446744073709551616) → (0 < i → 0 < n) → takeG (varF n ++ rest) i v = (v + n * 128 ^ i, i + (varF n).length, 0) := by
  intro n
  induction n using Nat.strongRecOn with
  | _ n ih =>
    intro i v rest hn hb h0
    have h9 : i = 9 → n ≤ 1 := fun h => by
      subst h
      omega
    by_cases h : n < 128
    · have e : (UInt8.ofNat n).toNat = n := u8_of (by omega)
      rw [varF_lt h]
      show takeG (UInt8.ofNat n :: rest) i v = _
      rw [takeG, e, if_neg (by omega), if_pos h, if_neg (by omega), Nat.mod_eq_of_lt h]
      rfl
    · have e : (UInt8.ofNat (n % 128 + 128)).toNat = n % 128 + 128 := u8_of (by omega)
      rw [varF_ge h]
      show takeG (UInt8.ofNat (n % 128 + 128) :: (varF (n / 128) ++ rest)) i v = _
      rw [takeG, e, if_neg (by omega), if_neg (by omega)]
      have hdiv : n / 128 * 128 ^ (i + 1) ≤ n * 128 ^ i := by
        rw [Nat.pow_succ, Nat.mul_comm (128 ^ i) 128, ← Nat.mul_assoc]
        exact Nat.mul_le_mul_right _ (Nat.div_mul_le_self n 128)
      rw [ih (n / 128) (by omega) (i + 1) _ rest (by omega) (by omega) (fun _ => by omega)]
      have e2 : (n % 128 + 128) % 128 = n % 128 := by omega
      rw [e2, List.length_cons]
      have e3 : n % 128 * 128 ^ i + n / 128 * 128 ^ (i + 1) = n * 128 ^ i := by
        rw [Nat.pow_succ, Nat.mul_comm (128 ^ i) 128, ← Nat.mul_assoc, ← Nat.add_mul]
        congr 1
        omega
      rw [Nat.add_assoc, e3]
      congr 2
      omega

theorem zag_zig (n : Int) : zagF (zigF n) = n := by
  unfold zagF zigF
  by_cases h : 0 ≤ n
  · rw [if_pos h, if_pos (by omega)]
    omega
  · rw [if_neg h, if_neg (by omega)]
    omega

theorem mayF_parts {v : GValue} (h : mayF v = true) : (v.kind = 0 ∧ v.n = 0 ∧ v.s = []) ∨ (v.kind = 1 ∧ (v.n = 0 ∨ v.n = 1) ∧ v.s = []) ∨ (v.kind = 2 ∧ v.s = []) ∨ (v.kind = 3 ∧ v.n = 0 ∧ v.s.length ≤ 64) := by
  have hk := kind_cases h
  unfold mayF at h
  rcases hk with hk | hk | hk | hk <;> rw [hk] at h ⊢ <;> simp at h ⊢ <;> exact h

theorem takeF_plain {v : GValue} (h : mayF v = true) (ho : v.ok) (rest : List UInt8) : takeF (plainF v ++ rest) = ⟨v, (plainF v).length, 0⟩ := by
  have hp := mayF_parts h
  have hi := ho.n
  obtain ⟨k, n, s⟩ := v
  simp only at hp hi
  unfold plainF
  rw [if_pos h]
  simp only
  rcases hp with ⟨rfl, rfl, rfl⟩ | ⟨rfl, hn, rfl⟩ | ⟨rfl, rfl⟩ | ⟨rfl, rfl, hl⟩
  · simp [takeF, takeC, v0]
  · rcases hn with rfl | rfl <;> simp [takeF, takeC, takeBoolF]
  · have hz := zigF_lt hi
    have := takeG_var (zigF n) 0 0 rest hz (by simpa using hz) (fun h => by omega)
    simp [takeF, takeC, this, zag_zig]
    omega
  · have ht := takeG_var s.length 0 0 (s ++ rest) (by omega) (by omega) (fun h => by omega)
    have htt : takeTextF (varF s.length ++ (s ++ rest)) = (s, (varF s.length).length + s.length, 0) := by
      unfold takeTextF
      rw [ht]
      have e1 : (varF s.length ++ (s ++ rest)).take ((varF s.length).length + s.length) = varF s.length ++ s := by
        rw [← List.append_assoc, List.take_append_of_le_length (by simp), List.take_of_length_le (by simp)]
      unfold takeTextG
      simp only [Nat.zero_add, Nat.pow_zero, Nat.mul_one, e1, List.drop_left]
      rw [if_neg (by simp), if_neg (by omega), if_neg (by simp)]
    have hl2 : ¬ 64 < s.length := by omega
    simp [takeF, takeC, htt, hl2]
    omega

theorem rowG_flat : ∀ (l : List GValue), (∀ v ∈ l, mayF v = true) → (∀ v ∈ l, v.ok) → rowG l.length (l.flatMap plainF) = some l
  | [], _, _ => by simp [rowG]
  | v :: l, h, ho => by
    have h1 := takeF_plain (h v (by simp)) (ho v (by simp)) (l.flatMap plainF)
    have h2 := rowG_flat l (fun x hx => h x (by simp [hx])) (fun x hx => ho x (by simp [hx]))
    rw [List.length_cons, rowG, List.flatMap_cons, h1]
    simp [h2]

theorem mayRowF_all : ∀ (cs : List GCol) (vs : List GValue), vs.length = cs.length → mayRowF cs vs = 0 → ∀ i (hi : i < cs.length) (hj : i < vs.length), mayF vs[i] = true ∧ (cs[i].null = false → vs[i].kind = cs[i].kind)
  | [], [], _, _, i, hi, _ => by simp at hi
  | c :: cs, v :: vs, hl, h, i, hi, hj => by
    unfold mayRowF at h
    split at h
    · cases h
    · rename_i h1
      split at h
      · cases h
      · rename_i h2
        split at h
        · cases h
        · rename_i h3
          cases i with
          | zero =>
            refine ⟨by simpa using h1, fun hn => ?_⟩
            have hn : c.null = false := hn
            have : v.kind ≠ 0 := fun q => h2 ⟨q, hn⟩
            exact Decidable.not_not.1 fun q => h3 ⟨this, q⟩
          | succ i => exact mayRowF_all cs vs (by simpa using hl) h i (by simpa using hi) (by simpa using hj)
  | [], _ :: _, hl, _, _, _, _ => by simp at hl
  | _ :: _, [], hl, _, _, _, _ => by simp at hl

theorem mayT_rows {cols : List GCol} {row : List GValue} (h : mayT cols row = 0) : mayRowF cols row = 0 := by
  unfold mayT at h
  split at h
  · cases h
  · exact h
theorem mayT_may {cols : List GCol} {row : List GValue} (h : mayT cols row = 0) : ∀ v ∈ row, mayF v = true := fun v hv => by
  obtain ⟨i, hi, rfl⟩ := List.mem_iff_getElem.1 hv
  exact (mayRowF_all cols row (mayT_len h) (mayT_rows h) i (by rw [← mayT_len h]; exact hi) hi).1

/-- A row that may be is read as it was written. -/
theorem row_back {cols : List GCol} {row : List GValue} (h : mayT cols row = 0) (hL : LightR row) : rowC cols.length (dataF row) = (row, 0) := by
  have hl := mayT_len h
  have h20 := hL.len
  have ht := takeG_var row.length 0 0 (row.flatMap plainF) (by omega) (by omega) (fun h => by omega)
  have hd : dataF row = varF row.length ++ row.flatMap plainF := by unfold dataF dataI; rw [List.take_length]
  unfold rowC
  rw [hd, ht]
  simp [← hl, rowG_flat row (mayT_may h) hL.ok, rowR]

/-- Keys of one kind stand as their values. -/
theorem key_less {a b : GValue} (ha : mayF a = true) (hb : mayF b = true) (hk : a.kind = b.kind) (oa : a.ok) (ob : b.ok) : Op.bytesLess (keyF a) (keyF b) = decide (compF a b < 0) := by
  have pa := mayF_parts ha
  have pb := mayF_parts hb
  have ia := oa.n
  have ib := ob.n
  obtain ⟨k, n, s⟩ := a
  obtain ⟨k2, n2, s2⟩ := b
  simp only at pa pb hk ia ib
  subst hk
  unfold keyF compF
  rw [if_pos ha, if_pos hb]
  simp only
  rw [bl_cons, if_neg (Nat.lt_irrefl _), if_neg (Nat.lt_irrefl _)]
  rcases pa with ⟨rfl, rfl, rfl⟩ | ⟨rfl, hn, rfl⟩ | ⟨rfl, rfl⟩ | ⟨rfl, rfl, hl⟩
  · simp at pb
    obtain ⟨rfl, rfl⟩ := pb
    decide
  · simp at pb
    obtain ⟨hn2, rfl⟩ := pb
    rcases hn with rfl | rfl <;> rcases hn2 with rfl | rfl <;> decide
  · simp at pb
    subst pb
    simp only [show ((2 : Int) = 1) = False from by simp, if_false, if_true]
    rw [be_less, Nat.mod_eq_of_lt (by omega), Nat.mod_eq_of_lt (by omega)]
    by_cases h : n < n2
    · simp [h, Int.ne_of_lt h]; omega
    · by_cases h2 : n = n2
      · subst h2; simp
      · simp [h, h2]; omega
  · simp at pb
    obtain ⟨rfl, hl2⟩ := pb
    simp only [show ((3 : Int) = 1) = False from by simp, show ((3 : Int) = 2) = False from by simp, if_false, if_true]
    rw [esc_less]
    by_cases h : s = s2
    · subst h; simp [bl_irrefl]
    · cases hq : Op.bytesLess s s2 <;> simp [h]
end Go.Proofs.Ytpemcnbblcobgaa
