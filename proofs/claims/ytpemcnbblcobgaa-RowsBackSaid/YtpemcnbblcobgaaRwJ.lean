/-
  Contracts of functions that the claimed statement reaches, each proved over trees (the library Vx); used by the theorem at the end of the claim.
  Conditions: as each theorem states them.
-/
import Derived.Test.YtpemcnbblcobgaaRwI
namespace Go.Proofs.Ytpemcnbblcobgaa
open Go Go.Vx
set_option maxRecDepth 100000

theorem takeG_lt : ∀ (l : List UInt8) (i v : Nat), v < 128 ^ i → i ≤ 9 → (takeG l i v).1 < 18446744073709551616
  | [], i, v, _, _ => by simp [takeG]
  | c :: rest, i, v, hv, h9 => by
    have hc := c.toNat_lt
    unfold takeG
    split
    · simp
    · rename_i h1
      have h98 : i ≤ 8 ∨ i = 9 ∧ c.toNat % 128 ≤ 1 := by
        by_cases h : i = 9
        · exact .inr ⟨h, by have : ¬ 1 < c.toNat := fun w => h1 ⟨h, w⟩
                            omega⟩
        · exact .inl (by omega)
      have hx : c.toNat % 128 < 128 := Nat.mod_lt _ (by omega)
      have n12 := next_64 hv hx h98
      split
      · split
        · simp
        · exact n12.1
      · rename_i h2
        refine takeG_lt rest (i + 1) _ (next_lt hv hx) ?_
        rcases h98 with h | h
        · omega
        · exfalso
          have : ¬ 1 < c.toNat := fun w => h1 ⟨h.1, w⟩
          omega

def takeC (k : Nat) (tb : TakeR) (r : Nat × Nat × Int) (t : List UInt8 × Nat × Int) : TakeR :=
  if k = 0 then ⟨v0, 1, 0⟩
  else if k = 1 then tb
  else if k = 2 then (if r.2.2 ≠ 0 then ⟨v0, 0, r.2.2⟩ else ⟨⟨2, zagF r.1, []⟩, 1 + r.2.1, 0⟩)
  else if k = 3 then (if t.2.2 ≠ 0 then ⟨v0, 0, t.2.2⟩ else if 64 < t.1.length then ⟨v0, 0, 3⟩ else ⟨⟨3, 0, t.1⟩, 1 + t.2.1, 0⟩)
  else ⟨v0, 0, 9⟩
/-- A value read. -/
def takeF : List UInt8 → TakeR
  | [] => ⟨v0, 0, 2⟩
  | c :: rest => takeC c.toNat (takeBoolF (c :: rest)) (takeG rest 0 0) (takeTextF rest)

theorem takeText_le (b : List UInt8) : (takeTextF b).2.1 ≤ b.length ∧ ((takeTextF b).2.2 = 0 → (takeTextF b).1.length ≤ b.length) := by
  have hle := takeG_le b 0 0
  unfold takeTextF takeTextG
  revert hle
  generalize takeG b 0 0 = r
  obtain ⟨n, k, e⟩ := r
  intro hle
  simp only at hle ⊢
  split
  · simp
  · rename_i h
    have h : e = 0 := Decidable.not_not.1 h
    have hk := hle h
    split
    · simp
    · split
      · simp
      · refine ⟨?_, fun _ => ?_⟩
        · simp only; omega
        · simp; omega

theorem Take_w (b : List UInt8) (hb0 : b.length ≤ maxB) : Pure Try.prog 36 [bys b] (takeF b).V := by
  cases b with
  | nil =>
    refine VCalls.intro 0 Try.func36 Try.ntmps36 Try.results36 rfl rfl (Nat.le_of_ble_eq_true rfl) fun c hc hb => wcode_of ?_
    simp [go_sem, bys, byteRows]
    exact take_ret (n := 0) rfl
  | cons c0 rest =>
    have hc := c0.toNat_lt
    have hr : rest.length ≤ maxB := by simp only [List.length_cons] at hb0; omega
    have hlt := takeG_lt rest 0 0 (by decide) (by decide)
    have hle := takeG_le rest 0 0
    have htv := TakeVar_w rest hr
    have htt := TakeText_w rest hr
    have htl := takeText_le rest
    have htb := takeBool_w (c0 :: rest) hb0
    have e1 : IntKind.i64.wrap (c0.toNat : Int) = (c0.toNat : Int) := i64_id (by omega) (by omega)
    have hrow : byteRows (c0 :: rest) = [.int .u8 c0.toNat] :: byteRows rest := rfl
    rw [takeF]
    revert hlt hle htv htt htb htl
    generalize takeG rest 0 0 = r
    generalize takeTextF rest = t
    generalize takeBoolF (c0 :: rest) = tb
    obtain ⟨n, k, e⟩ := r
    obtain ⟨tx, tk, te⟩ := t
    obtain ⟨⟨bk, bn, bs⟩, bm, be⟩ := tb
    obtain ⟨q, hq⟩ : ∃ q, c0.toNat = q := ⟨_, rfl⟩
    intro hlt hle htv htt htl htb
    simp only at hlt hle htl
    rw [hq] at hc e1 hrow ⊢
    have e2 : e = 0 → IntKind.i64.wrap (1 + (k : Int)) = ((1 + k : Nat) : Int) := fun h => by
      have := hle h
      rw [i64_id (by omega) (by unfold maxB at *; omega)]; omega
    have e3 : IntKind.i64.wrap (1 + (tk : Int)) = ((1 + tk : Nat) : Int) := by rw [i64_id (by omega) (by unfold maxB at *; omega)]; omega
    have e4 : (byteRows rest).take rest.length = byteRows rest := List.take_of_length_le (by rw [byteRows_len]; omega)
    have hu : uni 1 ([V.int .u8 (q : Int)] :: byteRows rest) := hrow ▸ byteRows_u (c0 :: rest)
    refine VCalls.intro 0 Try.func36 Try.ntmps36 Try.results36 rfl rfl (Nat.le_of_ble_eq_true rfl) fun c hc hb => wcode_of ?_
    simp [go_sem, bys, hrow, byteRows_len]
    refine wcond_i (fun w => absurd w (by simp; omega)) (fun w => ?_)
    simp [go_sem, hrow, byteRows_len, e1]
    refine wcond_i (fun w1 => ?_) (fun w1 => ?_)
    · have w1 : q = 0 := by simp at w1; omega
      simp [go_sem]
      exact take_ret (n := 1) (by simp [takeC, w1, v0])
    have w1 : ¬ q = 0 := by simp at w1; omega
    simp [go_sem]
    refine wcond_i (fun w2 => ?_) (fun w2 => ?_)
    · have w2 : q = 1 := by simp at w2; omega
      simp [go_sem]
      refine wVC_pure htb Try.callB53 (args_eq (by simp [bys, hrow]) rfl) rfl ?_
      simp [go_sem, TakeR.V]
      exact take_ret (n := bm) (by simp [takeC, w2])
    have w2 : ¬ q = 1 := by simp at w2; omega
    simp [go_sem]
    refine wcond_i (fun w3 => ?_) (fun w3 => ?_)
    · have w3 : q = 2 := by simp at w3; omega
      simp [go_sem, hrow, byteRows_len]
      refine wneed_i ⟨by omega, hu⟩ ?_
      simp [go_sem, e4]
      refine wVC_pure htv Try.callB35 (args_no rfl) rfl ?_
      simp [go_sem, takeV]
      refine wcond_i (fun w4 => ?_) (fun w4 => ?_)
      · have w4 : e ≠ 0 := by simpa using w4
        simp [go_sem]
        exact take_ret (n := 0) (by simp [takeC, w3, w4, v0])
      have w4 : e = 0 := by simpa using w4
      have e5 := e2 w4
      simp [go_sem]
      refine wVC_pure (Zag_w n hlt) Try.callB54 (args_no rfl) rfl ?_
      simp [go_sem, e5]
      exact take_ret (n := 1 + k) (by simp [takeC, w3, w4])
    have w3 : ¬ q = 2 := by simp at w3; omega
    simp [go_sem]
    refine wcond_i (fun w4 => ?_) (fun w4 => ?_)
    · have w4 : q = 3 := by simp at w4; omega
      simp [go_sem, hrow, byteRows_len]
      refine wneed_i ⟨by omega, hu⟩ ?_
      simp [go_sem, e4]
      refine wVC_pure htt Try.callB55 (args_no rfl) rfl ?_
      simp [go_sem, takeTV, bys, byteRows_len]
      refine wcond_i (fun w5 => ?_) (fun w5 => ?_)
      · have w5 : te ≠ 0 := by simpa using w5
        simp [go_sem]
        exact take_ret (n := 0) (by simp [takeC, w4, w5, v0])
      have w5 : te = 0 := by simpa using w5
      simp [go_sem, byteRows_len]
      refine wcond_i (fun w6 => ?_) (fun w6 => ?_)
      · have w6 : 64 < tx.length := by have := of_decide_eq_true w6; omega
        simp [go_sem]
        exact take_ret (n := 0) (by simp [takeC, w4, w5, w6, v0])
      have w6 : ¬ 64 < tx.length := by have := of_decide_eq_false w6; omega
      simp [go_sem]
      refine wneed_i (byteRows_isBytes _) ?_
      simp [go_sem, e3, byteRows_back]
      exact take_ret (n := 1 + tk) (by simp [takeC, w4, w5, w6])
    have w4 : ¬ q = 3 := by simp at w4; omega
    simp [go_sem]
    exact take_ret (n := 0) (by simp [takeC, w1, w2, w3, w4, v0])
end Go.Proofs.Ytpemcnbblcobgaa
