/-
  Contracts of functions that the claimed statement reaches, each proved over trees (the library Vx); used by the theorem at the end of the claim.
  Conditions: as each theorem states them.
-/
import Derived.Test.YthopohagdehncaaVxT
import Derived.IntWalk
namespace Go.Proofs.Ythopohagdehncaa
open Go Go.Vx
set_option maxRecDepth 100000

def minI : Int := -9223372036854775808
def agoF (now n : Int) : Int := if now < minI + max n 0 then minI else now - max n 0
def i64R (n : Int) : Prop := -9223372036854775808 ≤ n ∧ n ≤ 9223372036854775807
instance (n : Int) : Decidable (i64R n) := inferInstanceAs (Decidable (_ ∧ _))

theorem ago_w (now n : Int) (h1 : i64R now) (h2 : i64R n) : Pure Try.prog 15 [.int .i64 now, .int .i64 n] (.int .i64 (agoF now n)) := by
  refine VCalls.intro 0 Try.func15 Try.ntmps15 Try.results15 rfl rfl (Nat.le_of_ble_eq_true rfl) fun c hc hb => wcode_of ?_
  have e0 : (if n < 0 then 0 else n) = max n 0 := by omega
  have e1 : IntKind.i64.wrap (-9223372036854775808 + max n 0) = minI + max n 0 := IntWalk.i64_in _ (by unfold i64R at *; omega)
  unfold i64R at *
  simp [go_sem, e0, e1]
  refine wcond_i (fun h => ?_) (fun h => ?_)
  · simp [go_sem]
    refine wret_0 (argS_no rfl) ⟨?_, rfl⟩
    simp at h
    rw [agoF, if_pos h]; rfl
  · simp [go_sem]
    refine wret_0 (argS_no rfl) ⟨?_, rfl⟩
    simp at h
    have : IntKind.i64.wrap (now - max n 0) = now - max n 0 := IntWalk.i64_in _ (by unfold minI at h; omega)
    rw [this, agoF, if_neg (by omega)]

/-- A list of numbers. -/
theorem rows_at {α : Type} {f : α → List V} {xs : List α} {i : Nat} (h : i < xs.length) : (xs.map f).getD i [] = f xs[i] := by
  simp [List.getD_eq_getElem?_getD, h]
theorem inc64 {i n : Nat} (h : i < n) (hn : n ≤ 9223372036854775807) : IntKind.i64.wrap ((i : Int) + 1) = ((i + 1 : Nat) : Int) := by
  rw [IntWalk.i64_in _ (by omega)]; rfl

@[go_sem] def ints (l : List Int) : V := .sl .ro (l.map fun n => [V.int .i64 n])

def pickT (mode n now : Int) (safes : List Int) : Int := if mode = 2 then safes.foldl min now else n
def pickF (mode n now : Int) (safes lows : List Int) : Int × Int :=
  if mode ≠ 1 ∧ mode ≠ 2 then (0, 1)
  else if lows.any (fun l => decide (pickT mode n now safes < l)) then (0, 24)
  else if safes.any (fun s => decide (s < pickT mode n now safes)) then (0, 23)
  else if mode = 2 ∧ pickT mode n now safes < agoF now n then (0, 23)
  else (pickT mode n now safes, 0)

theorem pick_w (mode n now : Int) (safes lows : List Int) (hm : i64R mode) (hn : i64R n) (hnow : i64R now) (hs : safes.length ≤ 20) (hl : lows.length ≤ 20) (hsr : ∀ x ∈ safes, i64R x) (hlr : ∀ x ∈ lows, i64R x) :
    Pure Try.prog 7 [.int .i64 mode, .int .i64 n, .int .i64 now, ints safes, ints lows] (.tup [.int .i64 (pickF mode n now safes lows).1, .int .i64 (pickF mode n now safes lows).2]) := by
  refine VCalls.introV 0 Try.func7 Try.ntmps7 Try.results7 rfl rfl (Nat.le_of_ble_eq_true rfl) fun c hc hb => ?_
  refine wVW_seq (wVW_code ?_)
  simp [go_sem]
  refine wVW_seq (wVW_code ?_)
  simp [go_sem]
  refine wVW_cut (S := Unit) [0, 1, 2, 3, 4, 12, 13] (fun _ => [.int .i64 mode, .int .i64 n, .int .i64 now, ints safes, ints lows, .int .i64 (pickT mode n now safes), .int .i64 (if mode = 2 then agoF now n else minI)]) (fun _ => []) (fun _ => mode = 1 ∨ mode = 2) hc hb ?_ ?_
  · refine wVW_code ?_
    simp [go_sem]
    refine wcond_i (fun h => ?_) (fun h => ?_)
    · have h : mode = 1 := by simpa using h
      subst h
      simp [go_sem]
      exact next_i () ⟨.inl rfl, at_0 rfl (args_eq (by simp [go_sem, pickT, minI]) rfl)⟩
    · simp [go_sem]
      refine wcond_i (fun h2 => ?_) (fun h2 => ?_)
      · have h2 : mode = 2 := by simpa using h2
        subst h2
        simp [go_sem]
        refine wVC_pure (ago_w now n hnow hn) Try.callB15 (args_no rfl) rfl ?_
        simp [go_sem]
        refine wVW_while (S := Nat × Int) [0, 1, 2, 3, 4, 12, 13, 30, 31, 32] (fun s => [.int .i64 2, .int .i64 n, .int .i64 now, ints safes, ints lows, .int .i64 s.2, .int .i64 (agoF now n), ints safes, .int .i64 safes.length, .int .i64 s.1]) (fun _ => []) (fun s => safes.length - s.1) (fun s => s.1 ≤ safes.length ∧ s.2 = (safes.take s.1).foldl min now) hc hb (0, now) ⟨Nat.zero_le _, rfl⟩ ?_ ?_
        · exact at_0 rfl (args_eq (by simp [go_sem, ints]) rfl)
        rintro ⟨i, t⟩ ⟨hi, ht⟩
        refine wVW_code ?_
        simp [go_sem]
        simp only at hi ht
        refine wcond_i (fun h => ?_) (fun h => ?_)
        · have h : i < safes.length := by simpa using h
          simp [go_sem, h, inc64 h (by omega)]
          refine next_i (i + 1, min t safes[i]) ⟨by simp only; omega, ⟨h, ?_⟩, at_0 rfl (args_eq ?_ rfl)⟩
          · rw [List.take_succ_eq_append_getElem h, List.foldl_append, ← ht]; rfl
          · simp [go_sem]; omega
        · have h : safes.length ≤ i := by simpa using h
          simp [go_sem]
          refine next_i () ⟨.inr rfl, at_0 rfl (args_eq ?_ rfl)⟩
          simp [go_sem, pickT, ht]
          rw [List.take_of_length_le h]
      · simp [go_sem]
        refine wret_0 (argS_no rfl) ⟨?_, rfl⟩
        simp at h h2
        simp [pickF, h, h2]
  · rintro _ hmode
    have hT : ∀ x ∈ lows, i64R x := hlr
    generalize hT : pickT mode n now safes = T
    refine wVW_seq (wVW_code ?_)
    simp [go_sem]
    refine wVW_while (S := Nat) [0, 1, 2, 3, 4, 12, 13, 40, 41, 42] (fun i => [.int .i64 mode, .int .i64 n, .int .i64 now, ints safes, ints lows, .int .i64 T, .int .i64 (if mode = 2 then agoF now n else minI), ints lows, .int .i64 lows.length, .int .i64 i]) (fun _ => []) (fun i => lows.length - i) (fun i => i ≤ lows.length ∧ ∀ x ∈ lows.take i, ¬ T < x) hc hb 0 ⟨Nat.zero_le _, by simp⟩ ?_ ?_
    · exact at_0 rfl (args_eq (by simp [go_sem]) rfl)
    rintro i ⟨hi, ht⟩
    refine wVW_code ?_
    simp [go_sem]
    refine wcond_i (fun h => ?_) (fun h => ?_)
    · have h : i < lows.length := by simpa using h
      simp [go_sem, h, inc64 h (by omega)]
      refine wcond_i (fun h3 => ?_) (fun h3 => ?_)
      · simp [go_sem]
        refine wret_0 (argS_no rfl) ⟨?_, rfl⟩
        have : lows.any (fun l => decide (T < l)) = true := by
          rw [List.any_eq_true]; exact ⟨lows[i], List.getElem_mem h, h3⟩
        simp only [pickF, hT, this]
        rw [if_neg (by omega)]
        rfl
      · simp [go_sem, inc64 h (by omega)]
        refine next_i (i + 1) ⟨by omega, ⟨h, ?_⟩, at_0 rfl (args_eq ?_ rfl)⟩
        · rw [List.take_succ_eq_append_getElem h]
          intro x hx
          rcases List.mem_append.1 hx with hx | hx
          · exact ht x hx
          · simp at hx h3; omega
        · simp [go_sem]
    · have h : lows.length ≤ i := by simpa using h
      rw [List.take_of_length_le h] at ht
      simp [go_sem]
      refine wVW_seq (wVW_code ?_)
      simp [go_sem]
      refine wVW_while (S := Nat) [0, 1, 2, 3, 4, 12, 13, 50, 51, 52] (fun i => [.int .i64 mode, .int .i64 n, .int .i64 now, ints safes, ints lows, .int .i64 T, .int .i64 (if mode = 2 then agoF now n else minI), ints safes, .int .i64 safes.length, .int .i64 i]) (fun _ => []) (fun i => safes.length - i) (fun i => i ≤ safes.length ∧ ∀ x ∈ safes.take i, ¬ T > x) hc hb 0 ⟨Nat.zero_le _, by simp⟩ ?_ ?_
      · exact at_0 rfl (args_eq (by simp [go_sem]) rfl)
      rintro i ⟨hi, ht2⟩
      refine wVW_code ?_
      simp [go_sem]
      refine wcond_i (fun h => ?_) (fun h => ?_)
      · have h : i < safes.length := by simpa using h
        simp [go_sem, h, inc64 h (by omega)]
        refine wcond_i (fun h3 => ?_) (fun h3 => ?_)
        · simp [go_sem]
          refine wret_0 (argS_no rfl) ⟨?_, rfl⟩
          have e1 : lows.any (fun l => decide (T < l)) = false := by
            rw [List.any_eq_false]; intro x hx; simpa using ht x hx
          have e2 : safes.any (fun l => decide (l < T)) = true := by
            rw [List.any_eq_true]; exact ⟨safes[i], List.getElem_mem h, h3⟩
          simp only [pickF, hT, e1, e2]
          rw [if_neg (by omega)]
          rfl
        · simp [go_sem, inc64 h (by omega)]
          refine next_i (i + 1) ⟨by omega, ⟨h, ?_⟩, at_0 rfl (args_eq ?_ rfl)⟩
          · rw [List.take_succ_eq_append_getElem h]
            intro x hx
            rcases List.mem_append.1 hx with hx | hx
            · exact ht2 x hx
            · simp at hx h3; omega
          · simp [go_sem]
      · have h : safes.length ≤ i := by simpa using h
        rw [List.take_of_length_le h] at ht2
        have e1 : lows.any (fun l => decide (T < l)) = false := by
          rw [List.any_eq_false]; intro x hx; simpa using ht x hx
        have e2 : safes.any (fun l => decide (l < T)) = false := by
          rw [List.any_eq_false]; intro x hx; simpa using ht2 x hx
        simp [go_sem]
        refine wVW_code ?_
        simp [go_sem]
        refine wcond_i (fun h3 => ?_) (fun h3 => ?_)
        · simp [go_sem]
          refine wret_0 (argS_no rfl) ⟨?_, rfl⟩
          simp only [pickF, hT, e1, e2]
          rcases hmode with rfl | rfl
          · exfalso
            simp [pickT] at hT
            simp [minI] at h3
            unfold i64R at hn; omega
          · simp at h3
            simp [h3]
        · simp [go_sem]
          refine wret_0 (argS_no rfl) ⟨?_, rfl⟩
          simp only [pickF, hT, e1, e2]
          rcases hmode with rfl | rfl
          · simp
          · simp at h3
            simp [Int.not_lt.2 h3]

theorem less_w (a b : Int) (h1 : i64R a) (h2 : i64R b) (h3 : 0 ≤ b) : Pure Try.prog 16 [.int .i64 a, .int .i64 b] (.int .i64 (agoF a b)) := by
  refine VCalls.intro 0 Try.func16 Try.ntmps16 Try.results16 rfl rfl (Nat.le_of_ble_eq_true rfl) fun c hc hb => wcode_of ?_
  have e0 : max b 0 = b := by omega
  have e1 : IntKind.i64.wrap (-9223372036854775808 + b) = minI + b := IntWalk.i64_in _ (by unfold i64R at *; omega)
  unfold i64R at *
  simp [go_sem, e1]
  refine wcond_i (fun h => ?_) (fun h => ?_)
  · simp [go_sem]
    refine wret_0 (argS_no rfl) ⟨?_, rfl⟩
    simp at h
    rw [agoF, e0, if_pos h]; rfl
  · simp [go_sem]
    refine wret_0 (argS_no rfl) ⟨?_, rfl⟩
    simp at h
    have : IntKind.i64.wrap (a - b) = a - b := IntWalk.i64_in _ (by unfold minI at h; omega)
    rw [this, agoF, e0, if_neg (by omega)]

theorem refPick_w (mode n now : Int) (safes lows : List Int) (hm : i64R mode) (hn : i64R n) (hnow : i64R now) (hs : safes.length ≤ 20) (hl : lows.length ≤ 20) :
    Pure Try.prog 8 [.int .i64 mode, .int .i64 n, .int .i64 now, ints safes, ints lows] (.tup [.int .i64 (pickF mode n now safes lows).1, .int .i64 (pickF mode n now safes lows).2]) := by
  refine VCalls.introV 0 Try.func8 Try.ntmps8 Try.results8 rfl rfl (Nat.le_of_ble_eq_true rfl) fun c hc hb => ?_
  refine wVW_seq (wVW_code ?_)
  simp [go_sem]
  refine wVW_seq (wVW_code ?_)
  simp [go_sem]
  refine wVW_cut (S := Unit) [0, 1, 2, 3, 4, 12] (fun _ => [.int .i64 mode, .int .i64 n, .int .i64 now, ints safes, ints lows, .int .i64 (pickT mode n now safes)]) (fun _ => []) (fun _ => mode = 1 ∨ mode = 2) hc hb ?_ ?_
  · refine wVW_code ?_
    simp [go_sem]
    refine wcond_i (fun h => ?_) (fun h => ?_)
    · have h : mode = 1 := by simpa using h
      subst h
      simp [go_sem]
      exact next_i () ⟨.inl rfl, at_0 rfl (args_eq (by simp [go_sem, pickT]) rfl)⟩
    · simp [go_sem]
      refine wcond_i (fun h2 => ?_) (fun h2 => ?_)
      · have h2 : mode = 2 := by simpa using h2
        subst h2
        simp [go_sem]
        refine wVW_while (S := Nat × Int) [0, 1, 2, 3, 4, 12, 13] (fun s => [.int .i64 2, .int .i64 n, .int .i64 now, ints safes, ints lows, .int .i64 s.2, .int .i64 s.1]) (fun _ => []) (fun s => safes.length - s.1) (fun s => s.1 ≤ safes.length ∧ s.2 = (safes.take s.1).foldl min now) hc hb (0, now) ⟨Nat.zero_le _, rfl⟩ ?_ ?_
        · exact at_0 rfl (args_eq (by simp [go_sem, ints]) rfl)
        rintro ⟨i, t⟩ ⟨hi, ht⟩
        refine wVW_code ?_
        simp [go_sem]
        simp only at hi ht
        refine wcond_i (fun h => ?_) (fun h => ?_)
        · have h : i < safes.length := by simpa using h
          simp [go_sem, h, inc64 h (by omega)]
          refine next_i (i + 1, min t safes[i]) ⟨by simp only; omega, ⟨h, ?_⟩, at_0 rfl (args_eq ?_ rfl)⟩
          · rw [List.take_succ_eq_append_getElem h, List.foldl_append, ← ht]; rfl
          · simp [go_sem]; omega
        · have h : safes.length ≤ i := by simpa using h
          simp [go_sem]
          refine next_i () ⟨.inr rfl, at_0 rfl (args_eq ?_ rfl)⟩
          simp [go_sem, pickT, ht]
          rw [List.take_of_length_le h]
      · simp [go_sem]
        refine wret_0 (argS_no rfl) ⟨?_, rfl⟩
        simp at h h2
        simp [pickF, h, h2]
  · rintro _ hmode
    generalize hT : pickT mode n now safes = T
    refine wVW_seq (wVW_code ?_)
    simp [go_sem]
    refine wVW_while (S := Nat) [0, 1, 2, 3, 4, 12, 14] (fun i => [.int .i64 mode, .int .i64 n, .int .i64 now, ints safes, ints lows, .int .i64 T, .int .i64 i]) (fun _ => []) (fun i => lows.length - i) (fun i => i ≤ lows.length ∧ ∀ x ∈ lows.take i, ¬ T < x) hc hb 0 ⟨Nat.zero_le _, by simp⟩ ?_ ?_
    · exact at_0 rfl (args_eq (by simp [go_sem]) rfl)
    rintro i ⟨hi, ht⟩
    refine wVW_code ?_
    simp [go_sem]
    refine wcond_i (fun h => ?_) (fun h => ?_)
    · have h : i < lows.length := by simpa using h
      simp [go_sem, h]
      refine wcond_i (fun h3 => ?_) (fun h3 => ?_)
      · simp [go_sem]
        refine wret_0 (argS_no rfl) ⟨?_, rfl⟩
        have : lows.any (fun l => decide (T < l)) = true := by
          rw [List.any_eq_true]; exact ⟨lows[i], List.getElem_mem h, h3⟩
        simp only [pickF, hT, this]
        rw [if_neg (by omega)]
        rfl
      · simp [go_sem, inc64 h (by omega)]
        refine next_i (i + 1) ⟨by omega, ⟨h, ?_⟩, at_0 rfl (args_eq ?_ rfl)⟩
        · rw [List.take_succ_eq_append_getElem h]
          intro x hx
          rcases List.mem_append.1 hx with hx | hx
          · exact ht x hx
          · simp at hx h3; omega
        · simp [go_sem]
    · have h : lows.length ≤ i := by simpa using h
      rw [List.take_of_length_le h] at ht
      simp [go_sem]
      refine wVW_seq (wVW_code ?_)
      simp [go_sem]
      refine wVW_while (S := Nat) [0, 1, 2, 3, 4, 12, 15] (fun i => [.int .i64 mode, .int .i64 n, .int .i64 now, ints safes, ints lows, .int .i64 T, .int .i64 i]) (fun _ => []) (fun i => safes.length - i) (fun i => i ≤ safes.length ∧ ∀ x ∈ safes.take i, ¬ T > x) hc hb 0 ⟨Nat.zero_le _, by simp⟩ ?_ ?_
      · exact at_0 rfl (args_eq (by simp [go_sem]) rfl)
      rintro i ⟨hi, ht2⟩
      refine wVW_code ?_
      simp [go_sem]
      refine wcond_i (fun h => ?_) (fun h => ?_)
      · have h : i < safes.length := by simpa using h
        simp [go_sem, h]
        refine wcond_i (fun h3 => ?_) (fun h3 => ?_)
        · simp [go_sem]
          refine wret_0 (argS_no rfl) ⟨?_, rfl⟩
          have e1 : lows.any (fun l => decide (T < l)) = false := by
            rw [List.any_eq_false]; intro x hx; simpa using ht x hx
          have e2 : safes.any (fun l => decide (l < T)) = true := by
            rw [List.any_eq_true]; exact ⟨safes[i], List.getElem_mem h, h3⟩
          simp only [pickF, hT, e1, e2]
          rw [if_neg (by omega)]
          rfl
        · simp [go_sem, inc64 h (by omega)]
          refine next_i (i + 1) ⟨by omega, ⟨h, ?_⟩, at_0 rfl (args_eq ?_ rfl)⟩
          · rw [List.take_succ_eq_append_getElem h]
            intro x hx
            rcases List.mem_append.1 hx with hx | hx
            · exact ht2 x hx
            · simp at hx h3; omega
          · simp [go_sem]
      · have h : safes.length ≤ i := by simpa using h
        rw [List.take_of_length_le h] at ht2
        have e1 : lows.any (fun l => decide (T < l)) = false := by
          rw [List.any_eq_false]; intro x hx; simpa using ht x hx
        have e2 : safes.any (fun l => decide (l < T)) = false := by
          rw [List.any_eq_false]; intro x hx; simpa using ht2 x hx
        simp [go_sem]
        refine wVW_code ?_
        rcases hmode with rfl | rfl
        · simp [go_sem]
          refine wret_0 (argS_no rfl) ⟨?_, rfl⟩
          simp only [pickF, hT, e1, e2]
          simp
        · simp [go_sem]
          have e0 : (if n < 0 then 0 else n) = max n 0 := by omega
          have e3 : agoF now (max n 0) = agoF now n := by
            have : max (max n 0) 0 = max n 0 := by omega
            simp only [agoF, this]
          rw [e0]
          refine wVC_pure (less_w now (max n 0) hnow (by unfold i64R at *; omega) (by omega)) Try.callB16 (args_no rfl) rfl ?_
          rw [e3]
          simp [go_sem]
          refine wcond_i (fun h3 => ?_) (fun h3 => ?_)
          · simp [go_sem]
            refine wret_0 (argS_no rfl) ⟨?_, rfl⟩
            simp at h3
            simp only [pickF, hT, e1, e2]
            simp [h3]
          · simp [go_sem]
            refine wret_0 (argS_no rfl) ⟨?_, rfl⟩
            simp at h3
            simp only [pickF, hT, e1, e2]
            simp [Int.not_lt.2 h3]
end Go.Proofs.Ythopohagdehncaa
