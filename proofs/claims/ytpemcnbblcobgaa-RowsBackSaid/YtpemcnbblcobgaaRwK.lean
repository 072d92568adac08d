/-
  Contracts of functions that the claimed statement reaches, each proved over trees (the library Vx); used by the theorem at the end of the claim.
  Conditions: as each theorem states them.
-/
import Derived.Test.YtpemcnbblcobgaaRwJ
namespace Go.Proofs.Ytpemcnbblcobgaa
open Go Go.Vx
set_option maxRecDepth 100000

theorem refTakeKey_w (c0 : UInt8) (rest : List UInt8) (hb0 : (c0 :: rest).length ≤ maxB) (h01 : c0.toNat ≤ 1) : Pure Try.prog 56 [bys (c0 :: rest)] (takeC c0.toNat (takeBoolF (c0 :: rest)) (takeG rest 0 0) (takeTextF rest)).V := by
  have hrow : byteRows (c0 :: rest) = [.int .u8 c0.toNat] :: byteRows rest := rfl
  have hl : (c0 :: rest).length = rest.length + 1 := rfl
  obtain ⟨q, hq⟩ : ∃ q, c0.toNat = q := ⟨_, rfl⟩
  rw [hq] at hrow h01 ⊢
  refine VCalls.intro 0 Try.func56 Try.ntmps56 Try.results56 rfl rfl (Nat.le_of_ble_eq_true rfl) fun c hc hb => wcode_of ?_
  simp [go_sem, bys, hrow, byteRows_len]
  refine wcond_i (fun w => absurd w (by simp; omega)) (fun w => ?_)
  simp [go_sem, hrow, byteRows_len]
  refine wcond_i (fun w1 => ?_) (fun w1 => ?_)
  · have w1 : q = 0 := by simp at w1; omega
    simp [go_sem]
    exact take_ret (n := 1) (by simp [takeC, w1, v0])
  have w1 : ¬ q = 0 := by simp at w1; omega
  have w1' : q = 1 := by omega
  simp [go_sem]
  refine wcond_i (fun w2 => ?_) (fun w2 => absurd w2 (by simp; omega))
  simp [go_sem, hrow, byteRows_len]
  refine wcond_i (fun h => ?_) (fun h => ?_)
  · have h : (c0 :: rest).length < 2 := by have := of_decide_eq_true h; omega
    simp [go_sem]
    exact take_ret (n := 0) (by simp only [takeC, w1', takeBoolF]; rw [if_pos h]; rfl)
  have h : ¬ (c0 :: rest).length < 2 := by have := of_decide_eq_false h; omega
  have h1 : 0 < rest.length := by omega
  have e9 : ∀ x : UInt8, IntKind.i64.wrap (x.toNat : Int) = (x.toNat : Int) := fun x => i64_id (by omega) (by have := x.toNat_lt; omega)
  have hg : (c0 :: rest).getD 1 0 = rest[0] := by rw [List.getD_cons_succ, List.getD_eq_getElem?_getD, List.getElem?_eq_getElem h1]; rfl
  simp [go_sem, hrow, byteRows_len, h1, byteRows_at]
  try (refine wneed_i (by omega) ?_; simp [go_sem])
  refine wcond_i (fun h2 => ?_) (fun h2 => ?_)
  · have h2 : 1 < (rest[0]).toNat := by have := of_decide_eq_true h2; omega
    simp [go_sem]
    exact take_ret (n := 0) (by simp only [takeC, w1', takeBoolF, hg]; rw [if_neg h, if_pos h2]; rfl)
  have h2 : ¬ 1 < (rest[0]).toNat := by have := of_decide_eq_false h2; omega
  simp [go_sem, hrow, byteRows_len, h1, byteRows_at, e9]
  try (refine wneed_i (by omega) ?_; simp [go_sem, e9])
  exact take_ret (n := 2) (by simp only [takeC, w1', takeBoolF, hg]; rw [if_neg h, if_neg h2]; rfl)
theorem refTake_w (b : List UInt8) (hb0 : b.length ≤ maxB) : Pure Try.prog 38 [bys b] (takeF b).V := by
  cases b with
  | nil =>
    refine VCalls.intro 0 Try.func38 Try.ntmps38 Try.results38 rfl rfl (Nat.le_of_ble_eq_true rfl) fun c hc hb => wcode_of ?_
    simp [go_sem, bys, byteRows]
    exact take_ret (n := 0) rfl
  | cons c0 rest =>
    have hc := c0.toNat_lt
    have hr : rest.length ≤ maxB := by simp only [List.length_cons] at hb0; omega
    have hlt := takeG_lt rest 0 0 (by decide) (by decide)
    have hle := takeG_le rest 0 0
    have htv := refTakeVar_w rest hr
    have htt := refTakeText_w rest hr
    have htl := takeText_le rest
    have htb := refTakeKey_w c0 rest hb0
    have e1 : IntKind.i64.wrap (c0.toNat : Int) = (c0.toNat : Int) := i64_id (by omega) (by omega)
    have hrow : byteRows (c0 :: rest) = [.int .u8 c0.toNat] :: byteRows rest := rfl
    rw [takeF]
    revert hlt hle htv htt htb htl
    generalize takeG rest 0 0 = r
    generalize takeTextF rest = t
    generalize takeBoolF (c0 :: rest) = tb
    obtain ⟨n, k, e⟩ := r
    obtain ⟨tx, tk, te⟩ := t
    obtain ⟨⟨bk, bn, bs⟩, bm, be⟩ := tb
    obtain ⟨q, hq⟩ : ∃ q, c0.toNat = q := ⟨_, rfl⟩
    intro hlt hle htv htt htl htb
    simp only at hlt hle htl
    rw [hq] at hc e1 hrow htb ⊢
    have e2 : e = 0 → IntKind.i64.wrap ((k : Int) + 1) = ((1 + k : Nat) : Int) := fun h => by
      have := hle h
      rw [i64_id (by omega) (by unfold maxB at *; omega)]; omega
    have e3 : IntKind.i64.wrap ((tk : Int) + 1) = ((1 + tk : Nat) : Int) := by rw [i64_id (by omega) (by unfold maxB at *; omega)]; omega
    have e4 : (byteRows rest).take rest.length = byteRows rest := List.take_of_length_le (by rw [byteRows_len]; omega)
    have hu : uni 1 ([V.int .u8 (q : Int)] :: byteRows rest) := hrow ▸ byteRows_u (c0 :: rest)
    refine VCalls.intro 0 Try.func38 Try.ntmps38 Try.results38 rfl rfl (Nat.le_of_ble_eq_true rfl) fun c hc hb => wcode_of ?_
    simp [go_sem, bys, hrow, byteRows_len]
    refine wcond_i (fun w => absurd w (by simp; omega)) (fun w => ?_)
    simp [go_sem, hrow, byteRows_len, e1]
    refine wcond_i (fun w1r => ?_) (fun w1 => ?_)
    · have w1 : q = 0 := by simp at w1r; omega
      simp [go_sem]
      refine wcond_i (fun w1s => ?_) (fun w1s => absurd (w1r.symm.trans w1s) (by decide))
      simp [go_sem]
      have e9 : takeC q ⟨⟨bk, bn, bs⟩, bm, be⟩ (n, k, e) (tx, tk, te) = ⟨v0, 1, 0⟩ := by simp [takeC, w1]
      have htb2 := htb (by omega)
      rw [e9] at htb2
      refine wVC_pure htb2 Try.callB56 (args_eq (by simp [bys, hrow]) rfl) rfl ?_
      simp [go_sem, TakeR.V, v0]
      exact take_ret (n := 1) (by rw [e9]; rfl)
    have w1 : ¬ q = 0 := by simp at w1; omega
    simp [go_sem]
    refine wcond_i (fun w2 => ?_) (fun w2 => ?_)
    · have w2 : q = 1 := by simp at w2; omega
      simp [go_sem]
      have e9 : takeC q ⟨⟨bk, bn, bs⟩, bm, be⟩ (n, k, e) (tx, tk, te) = ⟨⟨bk, bn, bs⟩, bm, be⟩ := by simp [takeC, w2]
      have htb2 := htb (by omega)
      rw [e9] at htb2
      refine wVC_pure htb2 Try.callB56 (args_eq (by simp [bys, hrow]) rfl) rfl ?_
      simp [go_sem, TakeR.V]
      exact take_ret (n := bm) (by rw [e9])
    have w2 : ¬ q = 1 := by simp at w2; omega
    simp [go_sem]
    refine wcond_i (fun w3 => ?_) (fun w3 => ?_)
    · have w3 : q = 2 := by simp at w3; omega
      simp [go_sem, hrow, byteRows_len]
      refine wneed_i ⟨by omega, hu⟩ ?_
      simp [go_sem, e4]
      refine wVC_pure htv Try.callB37 (args_no rfl) rfl ?_
      simp [go_sem, takeV]
      refine wcond_i (fun w4 => ?_) (fun w4 => ?_)
      · have w4 : e ≠ 0 := by simpa using w4
        simp [go_sem]
        exact take_ret (n := 0) (by simp [takeC, w3, w4, v0])
      have w4 : e = 0 := by simpa using w4
      have e5 := e2 w4
      simp [go_sem]
      refine wVC_pure (refZag_w n hlt) Try.callB57 (args_no rfl) rfl ?_
      simp [go_sem, e5]
      exact take_ret (n := 1 + k) (by simp [takeC, w3, w4])
    have w3 : ¬ q = 2 := by simp at w3; omega
    simp [go_sem]
    refine wcond_i (fun w4 => ?_) (fun w4 => ?_)
    · have w4 : q = 3 := by simp at w4; omega
      simp [go_sem, hrow, byteRows_len]
      refine wneed_i ⟨by omega, hu⟩ ?_
      simp [go_sem, e4]
      refine wVC_pure htt Try.callB58 (args_no rfl) rfl ?_
      simp [go_sem, takeTV, bys, byteRows_len]
      refine wcond_i (fun w5 => ?_) (fun w5 => ?_)
      · have w5 : te ≠ 0 := by simpa using w5
        simp [go_sem]
        exact take_ret (n := 0) (by simp [takeC, w4, w5, v0])
      have w5 : te = 0 := by simpa using w5
      simp [go_sem, byteRows_len]
      refine wcond_i (fun w6 => ?_) (fun w6 => ?_)
      · have w6 : 64 < tx.length := by have := of_decide_eq_true w6; omega
        simp [go_sem]
        exact take_ret (n := 0) (by simp [takeC, w4, w5, w6, v0])
      have w6 : ¬ 64 < tx.length := by have := of_decide_eq_false w6; omega
      simp [go_sem]
      refine wneed_i (byteRows_isBytes _) ?_
      simp [go_sem, e3, byteRows_back]
      exact take_ret (n := 1 + tk) (by simp [takeC, w4, w5, w6])
    have w4 : ¬ q = 3 := by simp at w4; omega
    simp [go_sem]
    exact take_ret (n := 0) (by simp [takeC, w1, w2, w3, w4, v0])
end Go.Proofs.Ytpemcnbblcobgaa
