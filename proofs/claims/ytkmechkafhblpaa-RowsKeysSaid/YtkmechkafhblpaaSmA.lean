/-
  Contracts of functions that the claimed statement reaches, each proved over trees (the library Vx); used by the theorem at the end of the claim.
  Conditions: as each theorem states them.
-/
import Derived.Test.YtkmechkafhblpaaDat
import Derived.Test.YtkmechkafhblpaaVxU
namespace Go.Proofs.Ytkmechkafhblpaa
open Go Go.Vx
set_option maxRecDepth 100000

theorem u16_and {m n : Nat} (hm : m < 65536) (hn : n < 65536) : bitsV .and .u16 (m : Int) (n : Int) = ((m &&& n : Nat) : Int) := by
  show IntKind.u16.wrap ((BitVec.ofInt 16 (m : Int) &&& BitVec.ofInt 16 (n : Int)).toNat : Int) = _
  rw [BitVec.ofInt_natCast, BitVec.ofInt_natCast, BitVec.toNat_and, BitVec.toNat_ofNat, BitVec.toNat_ofNat, Nat.mod_eq_of_lt (by omega), Nat.mod_eq_of_lt (by omega)]
  have := Nat.and_le_left (n := m) (m := n)
  exact u16_id (by omega) (by omega)
theorem or_lt {m n : Nat} (hm : m < 65536) (hn : n < 65536) : m ||| n < 65536 := Nat.or_lt_two_pow (n := 16) hm hn
theorem u16_or {m n : Nat} (hm : m < 65536) (hn : n < 65536) : bitsV .or .u16 (m : Int) (n : Int) = ((m ||| n : Nat) : Int) := by
  show IntKind.u16.wrap ((BitVec.ofInt 16 (m : Int) ||| BitVec.ofInt 16 (n : Int)).toNat : Int) = _
  rw [BitVec.ofInt_natCast, BitVec.ofInt_natCast, BitVec.toNat_or, BitVec.toNat_ofNat, BitVec.toNat_ofNat, Nat.mod_eq_of_lt (by omega), Nat.mod_eq_of_lt (by omega)]
  have := or_lt hm hn
  exact u16_id (by omega) (by omega)

/-- The nodes of a set. -/
def nodes : List Nat := [1, 2, 3, 4, 5, 6, 7, 8, 9]
def listF (s : Nat) : List Nat := nodes.filter fun n => s.testBit n
def countF (s : Nat) : Nat := (listF s).length
/-- A set of nodes alone. -/
def okS (s : Nat) : Prop := s < 1024 ∧ s % 2 = 0
instance (s : Nat) : Decidable (okS s) := inferInstanceAs (Decidable (_ ∧ _))
def oneF (n : Int) : Nat := if n < 1 ∨ 9 < n then 0 else 2 ^ n.toNat
theorem oneF_ok (n : Int) : okS (oneF n) := by
  unfold oneF
  split
  · decide
  · have : n = 1 ∨ n = 2 ∨ n = 3 ∨ n = 4 ∨ n = 5 ∨ n = 6 ∨ n = 7 ∨ n = 8 ∨ n = 9 := by omega
    rcases this with rfl | rfl | rfl | rfl | rfl | rfl | rfl | rfl | rfl <;> decide
theorem mod2_testBit (a : Nat) : a % 2 = 0 ↔ a.testBit 0 = false := by
  rw [Nat.testBit_zero]
  simp
theorem okS_or {a b : Nat} (ha : okS a) (hb : okS b) : okS (a ||| b) := ⟨Nat.or_lt_two_pow (n := 10) ha.1 hb.1, by
  rw [mod2_testBit, Nat.testBit_or, (mod2_testBit a).1 ha.2, (mod2_testBit b).1 hb.2]; rfl⟩
theorem okS_and {a b : Nat} (ha : okS a) : okS (a &&& b) := ⟨Nat.lt_of_le_of_lt Nat.and_le_left ha.1, by
  rw [mod2_testBit, Nat.testBit_and, (mod2_testBit a).1 ha.2]; rfl⟩

theorem fdiv_nat (s k : Nat) : (s : Int).fdiv k = ((s / k : Nat) : Int) := by
  rw [Int.fdiv_eq_ediv_of_nonneg _ (by omega)]
  rfl
theorem fdiv_256 (s : Nat) : (s : Int).fdiv 256 = ((s / 256 : Nat) : Int) := fdiv_nat s 256

/-- How many ones a number has. -/
def onesF (s : Nat) : Nat := ((List.range 16).filter fun n => s.testBit n).length
/-- The library's table, its numbers. -/
def tabN : List Nat := [0, 1, 28, 2, 29, 14, 24, 3, 30, 22, 20, 15, 25, 17, 4, 8, 31, 27, 13, 23, 21, 19, 16, 7, 26, 12, 18, 6, 11, 5, 10, 9]
def ctzX (s : Nat) : Int := (IntKind.u32.wrap (IntKind.u32.wrap (bitsV BinOp.and IntKind.u16 (s : Int) (IntKind.u16.wrap (-(s : Int)))) * 125613361)).fdiv 134217728
def ctzF (s : Nat) : Nat := ((List.range 16).filter fun n => s.testBit n).headD 0
theorem ctzX_ok : ∀ s, s < 1024 → s ≠ 0 → 0 ≤ ctzX s ∧ ctzX s < 32 ∧ tabN.getD (ctzX s).toNat 0 = ctzF s := by decide +kernel

end Go.Proofs.Ytkmechkafhblpaa
namespace Go.Proofs.Ytkmechkafhblpaa
open Go Go.Vx
set_option maxRecDepth 100000

def intList (l : List Nat) : List (List V) := l.map fun n => [.int .i64 (n : Nat)]
theorem intList_len (l : List Nat) : (intList l).length = l.length := by simp [intList]
theorem intList_at {l : List Nat} {i : Nat} (h : i < (intList l).length) : (intList l)[i] = [.int .i64 (l[i]'(by rw [intList_len] at h; exact h) : Nat)] := by simp [intList]

/-- Whether a node is in a set. -/
def hasF (s : Nat) (n : Int) : Bool := decide (s &&& oneF n ≠ 0)
theorem has_fin : ∀ s, s < 1024 → ∀ n, n < 10 → (hasF s (n : Nat) = (decide (0 < oneF (n : Nat)) && decide (s / oneF (n : Nat) % 2 = 1))) ∧ (n ≠ 0 → hasF s (n : Nat) = s.testBit n) := by decide +kernel
theorem oneF_0 {n : Int} (h : n < 1 ∨ 9 < n) : oneF n = 0 := by rw [oneF, if_pos h]
theorem hasF_eq {s : Nat} (hs : s < 1024) (n : Int) : hasF s n = (decide (0 < oneF n) && decide (s / oneF n % 2 = 1)) := by
  by_cases h : n < 1 ∨ 9 < n
  · unfold hasF
    rw [oneF_0 h]
    simp
  · obtain ⟨m, rfl⟩ := Int.eq_ofNat_of_zero_le (show 0 ≤ n by omega)
    exact (has_fin s hs m (by omega)).1
theorem hasF_bit {s : Nat} (hs : s < 1024) {n : Nat} (h1 : 1 ≤ n) (h9 : n ≤ 9) : hasF s (n : Nat) = s.testBit n := (has_fin s hs n (by omega)).2 (by omega)
theorem oneF_lt (n : Int) : oneF n < 1024 := (oneF_ok n).1

theorem and_full {s : Nat} (h : okS s) : s &&& 1022 = s := by
  obtain ⟨h1, h2⟩ := h
  revert h2
  revert h1
  revert s
  decide +kernel
theorem count_fin : ∀ s, s < 1024 → s % 2 = 0 → onesF s = countF s := by decide +kernel
theorem mayS_fin : ∀ s : Nat, s < 1024 → s % 2 = 0 → bitsV .andNot .u16 (s : Int) 1022 = 0 := by decide +kernel
theorem list_fin : ∀ s, s < 1024 → s % 2 = 0 → s ≠ 0 → listF s = ctzF s :: listF (s &&& (s - 1)) ∧ (s &&& (s - 1)) < s ∧ (s &&& (s - 1)) % 2 = 0 := by decide +kernel
theorem listF_0 : listF 0 = [] := by decide
theorem listF_len (s : Nat) : (listF s).length ≤ 9 := by
  unfold listF
  exact Nat.le_trans (List.length_filter_le _ _) (by decide)

end Go.Proofs.Ytkmechkafhblpaa
namespace Go.Proofs.Ytkmechkafhblpaa
open Go Go.Vx
set_option maxRecDepth 100000

theorem beq_dec {a b : Int} {p : Prop} [Decidable p] (h : a = b ↔ p) : (a == b) = decide p := by
  by_cases hp : p
  · rw [decide_eq_true hp, h.2 hp]; simp
  · rw [decide_eq_false hp]
    exact beq_eq_false_iff_ne.2 fun q => hp (h.1 q)

theorem bit_w (n : Int) (hn : i64R n) : Pure Try.prog 81 [.int .i64 n] (.int .i64 (oneF n)) := by
  refine VCalls.introV 0 Try.func81 Try.ntmps81 Try.results81 rfl rfl (Nat.le_of_ble_eq_true rfl) fun c hc hb => ?_
  refine wVW_code ?_
  simp [go_sem]
  have no : ∀ (σ : St), n < 1 ∨ 9 < n → wret (some (.int .i64 0)) 0 (fun r s => r = .int .i64 (oneF n) ∧ s = []) σ := fun σ h => wret_0 (argS_no rfl) ⟨by rw [oneF_0 h]; rfl, rfl⟩
  refine wgrd_i (fun q => ?_) (fun q => ?_)
  · have q1 : ¬ n < 1 := by simpa using q
    simp [go_sem, q]
    refine wcond_i (fun q2 => ?_) (fun q2 => ?_)
    · have q2 : 9 < n := by simpa using q2
      simp [go_sem]
      exact no _ (.inr q2)
    · have q2 : ¬ 9 < n := by simpa using q2
      obtain ⟨m, rfl⟩ := Int.eq_ofNat_of_zero_le (show 0 ≤ n by omega)
      have hone : oneF (m : Nat) = 2 ^ m := by rw [oneF, if_neg (by omega)]; rfl
      simp [go_sem]
      refine wVW_while (S := Nat) [0, 3, 4] (fun i => [.int .i64 m, .int .i64 (2 ^ i : Nat), .int .i64 i]) (fun _ => []) (fun i => m - i) (fun i => i ≤ m) hc hb 0 (Nat.zero_le _) ?_ ?_
      · exact at_0 rfl (args_eq (by simp [go_sem]) rfl)
      intro i hi
      have hp : (2 : Nat) ^ i ≤ 2 ^ 9 := Nat.pow_le_pow_right (by decide) (by omega)
      obtain ⟨z, hz⟩ : ∃ z : Nat, 2 ^ i = z := ⟨_, rfl⟩
      rw [hz] at hp ⊢
      refine wVW_code ?_
      simp [go_sem]
      refine wcond_i (fun q3 => ?_) (fun q3 => ?_)
      · have q3 : i < m := by simpa using q3
        have e1 : IntKind.i64.wrap ((z : Int) * 2) = ((2 ^ (i + 1) : Nat) : Int) := by rw [i64_id (by omega) (by omega), Nat.pow_succ, hz]; simp
        have e2 := i64_inc q3 (by omega)
        simp [go_sem] at e1
        simp [go_sem, e1, e2]
        exact next_i (i + 1) ⟨by omega, q3, at_0 rfl (args_eq (by simp [go_sem]) rfl)⟩
      · have q3 : i = m := by have : ¬ i < m := by simpa using q3
                              omega
        subst q3
        simp [go_sem]
        exact wret_0 (argS_no rfl) ⟨by rw [hone, hz], rfl⟩
  · have q1 : n < 1 := by simpa using q
    simp [go_sem, q]
    exact no _ (.inl q1)

theorem refHas_w (s : Nat) (n : Int) (hs : s < 1024) (hn : i64R n) : Pure Try.prog 67 [.int .u16 s, .int .i64 n] (.bool (hasF s n)) := by
  rw [hasF_eq hs]
  have h1 := oneF_lt n
  have hb1 := bit_w n hn
  obtain ⟨o, ho⟩ : ∃ o, oneF n = o := ⟨_, rfl⟩
  rw [ho] at h1 hb1 ⊢
  refine VCalls.intro 0 Try.func67 Try.ntmps67 Try.results67 rfl rfl (Nat.le_of_ble_eq_true rfl) fun c hc hb => wcode_of ?_
  simp [go_sem]
  refine wVC_pure hb1 Try.callB81 (args_no rfl) rfl ?_
  simp [go_sem]
  refine wgrd_i (fun q => ?_) (fun q => ?_)
  · have q1 : 0 < o := by simpa using q
    have e1 : IntKind.i64.wrap (s : Int) = s := i64_id (by omega) (by omega)
    simp [go_sem, q, e1]
    refine wVC_pure hb1 Try.callB81 (args_no rfl) rfl ?_
    simp [go_sem]
    refine wneed_i (by omega) ?_
    obtain ⟨z, hz⟩ : ∃ z : Nat, s / o = z := ⟨_, rfl⟩
    have hzi : (s : Int) / (o : Int) = (z : Int) := by rw [← hz]; rfl
    have hzl : z ≤ s := hz ▸ Nat.div_le_self _ _
    have e2 : IntKind.i64.wrap (z : Int) = (z : Int) := i64_id (by omega) (by omega)
    have e3 : (z : Int).tmod 2 = ((z % 2 : Nat) : Int) := by rw [Int.tmod_eq_emod_of_nonneg (by omega)]; omega
    simp [go_sem, hzi, e2, e3]
    try (refine wneed_i (by omega) ?_; simp [go_sem, hzi, e2, e3])
    refine wret_0 (argS_no rfl) ⟨congrArg V.bool ?_, rfl⟩
    rw [hz]
    simp [q1]
    exact beq_dec (by omega)
  · have q1 : ¬ 0 < o := by simpa using q
    simp [go_sem, q]
    exact wret_0 (argS_no rfl) ⟨by simp, rfl⟩

theorem or_fin : ∀ s : Nat, s < 1024 → ∀ n, n < 10 → (hasF s (n : Nat) = true → s ||| oneF (n : Nat) = s) ∧ (hasF s (n : Nat) = false → s ||| oneF (n : Nat) = s + oneF (n : Nat)) := by decide +kernel
theorem or_has {s : Nat} {n : Int} (hs : s < 1024) : (hasF s n = true → s ||| oneF n = s) ∧ (hasF s n = false → s ||| oneF n = s + oneF n) := by
  by_cases h : n < 1 ∨ 9 < n
  · rw [oneF_0 h]; simp
  · obtain ⟨m, rfl⟩ := Int.eq_ofNat_of_zero_le (show 0 ≤ n by omega)
    exact or_fin s hs m (by omega)
theorem refWith_w (s : Nat) (n : Int) (hs : s < 1024) (hn : i64R n) : Pure Try.prog 76 [.int .u16 s, .int .i64 n] (.int .u16 (s ||| oneF n : Nat)) := by
  have h1 := oneF_lt n
  have ho := or_has (n := n) hs
  refine VCalls.intro 0 Try.func76 Try.ntmps76 Try.results76 rfl rfl (Nat.le_of_ble_eq_true rfl) fun c hc hb => wcode_of ?_
  simp [go_sem]
  refine wVC_pure (refHas_w s n hs hn) Try.callB67 (args_no rfl) rfl ?_
  simp [go_sem]
  refine wcond_i (fun q => ?_) (fun q => ?_)
  · simp [go_sem]
    exact wret_0 (argS_no rfl) ⟨by rw [ho.1 q], rfl⟩
  · have e1 : IntKind.u16.wrap (oneF n : Int) = (oneF n : Int) := u16_id (by omega) (by omega)
    have e2 : IntKind.u16.wrap ((s : Int) + oneF n) = ((s + oneF n : Nat) : Int) := by rw [u16_id (by omega) (by omega)]; rfl
    simp [go_sem]
    refine wVC_pure (bit_w n hn) Try.callB81 (args_no rfl) rfl ?_
    simp [go_sem, e1, e2]
    exact wret_0 (argS_no rfl) ⟨by rw [ho.2 q]; rfl, rfl⟩

/-- The nodes from one on. -/
def fromF (s n : Nat) : List Nat := (List.range' n (10 - n)).filter fun m => s.testBit m
theorem fromF_1 (s : Nat) : fromF s 1 = listF s := rfl
theorem fromF_10 (s : Nat) : fromF s 10 = [] := rfl
theorem fromF_next {s n : Nat} (h : n ≤ 9) : fromF s n = (if s.testBit n then n :: fromF s (n + 1) else fromF s (n + 1)) := by
  unfold fromF
  rw [show 10 - n = (10 - (n + 1)) + 1 by omega, List.range'_succ, List.filter_cons]

theorem refList_w (s : Nat) (hs : s < 1024) : Pure Try.prog 48 [.int .u16 s] (.sl .ro (intList (listF s))) := by
  refine VCalls.introV 0 Try.func48 Try.ntmps48 Try.results48 rfl rfl (Nat.le_of_ble_eq_true rfl) fun c hc hb => ?_
  refine wVW_code ?_
  simp [go_sem]
  refine wVW_app 3 1 (by decide) rfl ?_
  refine wVW_while (S := Nat × List Nat) [0, 3, 4] (fun u => [.int .u16 s, .sl (.app 0) (intList u.2), .int .i64 u.1]) (fun u => [.app u.2.length 1]) (fun u => 10 - u.1) (fun u => 1 ≤ u.1 ∧ u.1 ≤ 10 ∧ u.2 ++ fromF s u.1 = listF s) hc hb (1, []) ⟨by decide, by decide, rfl⟩ ?_ ?_
  · exact at_n 1 (by simp) rfl rfl (Nat.zero_le _) (args_lt_eq (by simp [go_sem, intList]) rfl)
  rintro ⟨n, l⟩ ⟨h1, h10, hl⟩
  simp only at h1 h10 hl
  have hlen : l.length ≤ 9 := by
    have h1 := listF_len s
    have h2 := congrArg List.length hl
    rw [List.length_append] at h2
    omega
  refine wVW_code ?_
  simp [go_sem]
  refine wcond_i (fun q => ?_) (fun q => ?_)
  · have q : n ≤ 9 := by simp at q; omega
    have e1 : IntKind.i64.wrap ((n : Int) + 1) = ((n + 1 : Nat) : Int) := i64_inc (n := 10) (by omega) (by decide)
    rw [fromF_next q] at hl
    simp [go_sem]
    refine wVC_pure (refHas_w s n hs (by unfold i64R; omega)) Try.callB67 (args_no rfl) rfl ?_
    rw [hasF_bit hs h1 q]
    simp [go_sem]
    refine wcond_i (fun w => ?_) (fun w => ?_)
    · rw [if_pos w] at hl
      simp [go_sem, intList_len]
      refine wneed_i ⟨by omega, uni_one rfl⟩ ?_
      simp [go_sem, e1]
      exact next_i (n + 1, l ++ [n]) ⟨by simp only; omega, ⟨by simp only; omega, by simp only; omega, by simpa using hl⟩, at_n 1 (by simp) rfl rfl (Nat.zero_le _) (args_lt_eq (by simp [go_sem, intList]) rfl)⟩
    · rw [if_neg (by rw [w]; decide)] at hl
      simp [go_sem, e1]
      exact next_i (n + 1, l) ⟨by simp only; omega, ⟨by simp only; omega, by simp only; omega, hl⟩, at_n 1 (by simp) rfl rfl (Nat.zero_le _) (args_lt_eq (by simp [go_sem]) rfl)⟩
  · have q : n = 10 := by simp at q; omega
    subst q
    rw [fromF_10, List.append_nil] at hl
    subst hl
    simp [go_sem]
    exact wret_0 argS_ro ⟨rfl, rfl⟩

theorem refCount_w (s : Nat) (hs : s < 1024) : Pure Try.prog 77 [.int .u16 s] (.int .i64 (countF s : Nat)) := by
  refine VCalls.intro 0 Try.func77 Try.ntmps77 Try.results77 rfl rfl (Nat.le_of_ble_eq_true rfl) fun c hc hb => wcode_of ?_
  simp [go_sem]
  refine wVC_pure (refList_w s hs) Try.callB48 (args_no rfl) rfl ?_
  simp [go_sem, intList_len]
  exact wret_0 (argS_no rfl) ⟨rfl, rfl⟩

theorem sum_fin : ∀ s, s < 1024 → s % 2 = 0 → ((listF s).map fun n => oneF (n : Nat)).sum = s := by decide +kernel
theorem refMayS_w (s : Nat) (hs : okS s) : Pure Try.prog 79 [.int .u16 s] (.bool true) := by
  have hsum := sum_fin s hs.1 hs.2
  have hlen := listF_len s
  have hs1 := hs.1
  have hmem : ∀ n ∈ listF s, n ≤ 9 := fun n hn => by
    have h := (List.mem_filter.1 hn).1
    have : ∀ m ∈ nodes, m ≤ 9 := by decide
    exact this n h
  revert hsum hlen hmem
  have hl := refList_w s hs.1
  revert hl
  generalize listF s = l
  intro hl hsum hlen hmem
  refine VCalls.introV 0 Try.func79 Try.ntmps79 Try.results79 rfl rfl (Nat.le_of_ble_eq_true rfl) fun c hc hb => ?_
  refine wVW_code ?_
  simp [go_sem]
  refine wVC_pure hl Try.callB48 (args_no rfl) rfl ?_
  simp [go_sem]
  refine wVW_while (S := Nat × Nat) [0, 3, 4, 5] (fun u => [.int .u16 s, .int .i64 u.2, .sl .ro (intList l), .int .i64 u.1]) (fun _ => []) (fun u => l.length - u.1) (fun u => u.1 ≤ l.length ∧ u.2 + ((l.drop u.1).map fun n => oneF (n : Nat)).sum = s) hc hb (0, 0) ⟨Nat.zero_le _, by simpa using hsum⟩ ?_ ?_
  · exact at_0 rfl (args_eq (by simp [go_sem]) rfl)
  rintro ⟨i, v⟩ ⟨hi, hv⟩
  simp only at hi hv
  refine wVW_code ?_
  simp [go_sem, intList_len]
  refine wcond_i (fun q => ?_) (fun q => ?_)
  · have q : i < l.length := by simpa using q
    obtain ⟨n, hn⟩ : ∃ n, l[i] = n := ⟨_, rfl⟩
    have hn9 := hmem n (hn ▸ List.getElem_mem q)
    rw [List.drop_eq_getElem_cons q, List.map_cons, List.sum_cons, hn] at hv
    have e1 := i64_inc q (by omega)
    have e2 : IntKind.i64.wrap ((v : Int) + oneF (n : Nat)) = ((v + oneF (n : Nat) : Nat) : Int) := by rw [i64_id (by omega) (by omega)]; rfl
    simp [go_sem, intList_len, q, intList_at, hn]
    refine wVC_pure (bit_w n (by unfold i64R; omega)) Try.callB81 (args_no rfl) rfl ?_
    simp [go_sem, e1, e2]
    exact next_i (i + 1, v + oneF (n : Nat)) ⟨by simp only; omega, ⟨q, by simp only; omega⟩, at_0 rfl (args_eq (by simp [go_sem]) rfl)⟩
  · have q : i = l.length := by have : ¬ i < l.length := by simpa using q
                                omega
    subst q
    rw [List.drop_length] at hv
    have hv : v = s := by simpa using hv
    subst hv
    have e3 : IntKind.i64.wrap (v : Int) = v := i64_id (by omega) (by omega)
    simp [go_sem, e3]
    exact wret_0 (argS_no rfl) ⟨rfl, rfl⟩

theorem join_fin : ∀ x : Nat, x < 1024 → ∀ n, n < 10 → (x.testBit n = true → (x % 2 ^ n) ||| 2 ^ n = x % 2 ^ (n + 1)) ∧ (x.testBit n = false → x % 2 ^ n = x % 2 ^ (n + 1)) := by decide +kernel
theorem oneF_pow {n : Nat} (h1 : 1 ≤ n) (h9 : n ≤ 9) : oneF (n : Nat) = 2 ^ n := by rw [oneF, if_neg (by omega)]; rfl
theorem refJoin_w (a b : Nat) (ha : okS a) (hb1 : okS b) : Pure Try.prog 68 [.int .u16 a, .int .u16 b] (.int .u16 (a ||| b : Nat)) := by
  have hx := okS_or ha hb1
  obtain ⟨x, hxe⟩ : ∃ x, a ||| b = x := ⟨_, rfl⟩
  rw [hxe] at hx ⊢
  have hbit : ∀ n, x.testBit n = (a.testBit n || b.testBit n) := fun n => by rw [← hxe, Nat.testBit_or]
  refine VCalls.introV 0 Try.func68 Try.ntmps68 Try.results68 rfl rfl (Nat.le_of_ble_eq_true rfl) fun c hc hb => ?_
  refine wVW_code ?_
  simp [go_sem]
  refine wVW_while (S := Nat × Nat) [0, 1, 5, 6] (fun u => [.int .u16 a, .int .u16 b, .int .u16 u.2, .int .i64 u.1]) (fun _ => []) (fun u => 10 - u.1) (fun u => 1 ≤ u.1 ∧ u.1 ≤ 10 ∧ u.2 = x % 2 ^ u.1) hc hb (1, 0) ⟨by decide, by decide, by have := hx.2; simp only; omega⟩ ?_ ?_
  · exact at_0 rfl (args_eq (by simp [go_sem]) rfl)
  rintro ⟨n, s⟩ ⟨h1, h10, hs⟩
  simp only at h1 h10 hs
  have hsl : s < 1024 := by have := Nat.mod_le x (2 ^ n); have := hx.1; omega
  refine wVW_code ?_
  simp [go_sem]
  refine wcond_i (fun q => ?_) (fun q => ?_)
  · have q : n ≤ 9 := by simp at q; omega
    have e1 : IntKind.i64.wrap ((n : Int) + 1) = ((n + 1 : Nat) : Int) := i64_inc (n := 10) (by omega) (by decide)
    have hf := join_fin x hx.1 n (by omega)
    have hi : i64R (n : Nat) := by unfold i64R; omega
    rw [hbit, ← hs] at hf
    have ha2 := refHas_w a n ha.1 hi
    have hb2 := refHas_w b n hb1.1 hi
    rw [hasF_bit ha.1 h1 q] at ha2
    rw [hasF_bit hb1.1 h1 q] at hb2
    have hw := refWith_w s n hsl hi
    rw [oneF_pow h1 q] at hw
    revert hf ha2 hb2
    generalize a.testBit n = ta
    generalize b.testBit n = tb
    intro hf ha2 hb2
    simp [go_sem]
    refine wVC_pure ha2 Try.callB67 (args_no rfl) rfl ?_
    simp [go_sem]
    have yes : (ta || tb) = true → s ||| 2 ^ n = x % 2 ^ (n + 1) := hf.1
    have no : (ta || tb) = false → s = x % 2 ^ (n + 1) := hf.2
    refine wgrd_i (fun w => ?_) (fun w => ?_)
    · simp [go_sem, w]
      refine wVC_pure hb2 Try.callB67 (args_no rfl) rfl ?_
      simp [go_sem]
      refine wcond_i (fun w2 => ?_) (fun w2 => ?_)
      · have hy := yes (by rw [w2]; simp)
        simp [go_sem]
        refine wVC_pure hw Try.callB76 (args_no rfl) rfl ?_
        rw [hy]
        simp [go_sem, e1]
        exact next_i (n + 1, x % 2 ^ (n + 1)) ⟨by simp only; omega, ⟨by simp only; omega, by simp only; omega, rfl⟩, at_0 rfl (args_eq (by simp [go_sem]) rfl)⟩
      · have hy := no (by rw [w, w2]; rfl)
        simp [go_sem, e1]
        exact next_i (n + 1, s) ⟨by simp only; omega, ⟨by simp only; omega, by simp only; omega, hy⟩, at_0 rfl (args_eq (by simp [go_sem]) rfl)⟩
    · have w : ta = true := by simpa using w
      have hy := yes (by rw [w]; rfl)
      simp [go_sem, w]
      refine wVC_pure hw Try.callB76 (args_no rfl) rfl ?_
      rw [hy]
      simp [go_sem, e1]
      exact next_i (n + 1, x % 2 ^ (n + 1)) ⟨by simp only; omega, ⟨by simp only; omega, by simp only; omega, rfl⟩, at_0 rfl (args_eq (by simp [go_sem]) rfl)⟩
  · have q : n = 10 := by simp at q; omega
    subst q
    have : s = x := by rw [hs]; exact Nat.mod_eq_of_lt (by have := hx.1; omega)
    subst this
    simp [go_sem]
    exact wret_0 (argS_no rfl) ⟨rfl, rfl⟩
end Go.Proofs.Ytkmechkafhblpaa
namespace Go.Proofs.Ytkmechkafhblpaa
open Go Go.Vx
set_option maxRecDepth 100000

/-- A configuration: its sets, its quorums. -/
structure Cfg where
  v : Nat
  w : Nat
  l : Nat
  e : Int
  c : Int
  deriving DecidableEq
@[go_sem] def Cfg.row (x : Cfg) : List V := [.int .u16 x.v, .int .u16 x.w, .int .u16 x.l, .int .i64 x.e, .int .i64 x.c]
structure Cfg.ok (x : Cfg) : Prop where
  v : okS x.v
  w : okS x.w
  l : okS x.l
  e : i64R x.e
  c : i64R x.c

theorem refVotes_w (x : Cfg) (hx : x.ok) : Pure Try.prog 78 [.agg x.row] (.int .u16 (x.v ||| x.w : Nat)) := by
  refine VCalls.intro 0 Try.func78 Try.ntmps78 Try.results78 rfl rfl (Nat.le_of_ble_eq_true rfl) fun c hc hb => wcode_of ?_
  simp [go_sem]
  refine wVC_pure (refJoin_w x.v x.w hx.v hx.w) Try.callB68 (args_no rfl) rfl ?_
  simp [go_sem]
  exact wret_0 (argS_no rfl) ⟨rfl, rfl⟩

/-- Whether quorums may be, of so many that vote. -/
def mayQ (n : Nat) (e c : Int) : Bool := decide (1 ≤ e ∧ e ≤ n ∧ 1 ≤ c ∧ c ≤ n ∧ n - c < e ∧ n - e < e)
def mayC (x : Cfg) : Bool := decide (x.v &&& x.w = 0 ∧ x.v &&& x.l = 0 ∧ x.w &&& x.l = 0 ∧ x.v ≠ 0) && mayQ (countF (x.v ||| x.w)) x.e x.c

theorem countF_le (s : Nat) : countF s ≤ 9 := listF_len s

end Go.Proofs.Ytkmechkafhblpaa
namespace Go.Proofs.Ytkmechkafhblpaa
open Go Go.Vx
set_option maxRecDepth 100000

theorem filter_two {α : Type} (p q : α → Bool) : ∀ l : List α, (l.filter fun x => p x || q x).length + (l.filter fun x => p x && q x).length = (l.filter p).length + (l.filter q).length
  | [] => rfl
  | x :: l => by
    have ih := filter_two p q l
    simp only [List.filter_cons]
    cases p x <;> cases q x <;> simp <;> omega
theorem count_two (a b : Nat) : countF (a ||| b) + countF (a &&& b) = countF a + countF b := by
  unfold countF listF
  simp only [Nat.testBit_or, Nat.testBit_and]
  exact filter_two _ _ nodes
theorem count_zero : ∀ s, s < 1024 → s % 2 = 0 → (countF s = 0 ↔ s = 0) := by decide +kernel
theorem count_z {s : Nat} (h : okS s) : countF s = 0 ↔ s = 0 := count_zero s h.1 h.2
theorem apart_iff {v w l : Nat} (hv : okS v) (hw : okS w) (_hl : okS l) : countF ((v ||| w) ||| l) = countF v + countF w + countF l ↔ (v &&& w = 0 ∧ v &&& l = 0 ∧ w &&& l = 0) := by
  have h1 := count_two v w
  have h2 := count_two (v ||| w) l
  have z1 := count_z (okS_and (b := w) hv)
  have z2 := count_z (okS_and (b := l) (okS_or hv hw))
  have hd : (v ||| w) &&& l = 0 ↔ v &&& l = 0 ∧ w &&& l = 0 := by
    rw [Nat.and_or_distrib_right]
    constructor
    · intro h
      have hx : ∀ x y : Nat, x ||| y = 0 → x = 0 ∧ y = 0 := fun x y q => by
        have a1 : x ≤ x ||| y := Nat.left_le_or
        have a2 : y ≤ x ||| y := Nat.right_le_or
        omega
      exact hx _ _ h
    · rintro ⟨a, b⟩
      rw [a, b]; rfl
  constructor
  · intro h
    have e1 : countF (v &&& w) = 0 := by omega
    have e2 : countF ((v ||| w) &&& l) = 0 := by omega
    have := hd.1 (z2.1 e2)
    exact ⟨z1.1 e1, this.1, this.2⟩
  · rintro ⟨a, b, c⟩
    have e1 := z1.2 a
    have e2 := z2.2 (hd.2 ⟨b, c⟩)
    omega

theorem refConfMay_w (x : Cfg) (hx : x.ok) : Pure Try.prog 65 [.agg x.row] (.bool (mayC x)) := by
  have m1 := refMayS_w x.v hx.v
  have m2 := refMayS_w x.w hx.w
  have m3 := refMayS_w x.l hx.l
  have v1 := refVotes_w x hx
  have hvw := okS_or hx.v hx.w
  have j1 := refJoin_w (x.v ||| x.w) x.l hvw hx.l
  have c1 := refCount_w (x.v ||| x.w) hvw.1
  have c2 := refCount_w _ (okS_or hvw hx.l).1
  have k1 := refCount_w x.v hx.v.1
  have k2 := refCount_w x.w hx.w.1
  have k3 := refCount_w x.l hx.l.1
  have hn := countF_le (x.v ||| x.w)
  have n1 := countF_le x.v
  have n2 := countF_le x.w
  have n3 := countF_le x.l
  have hap := apart_iff hx.v hx.w hx.l
  have hz := count_z hx.v
  have he := hx.e
  have hc1 := hx.c
  have hM : mayC x = (decide (countF ((x.v ||| x.w) ||| x.l) = countF x.v + countF x.w + countF x.l ∧ countF x.v ≠ 0) && mayQ (countF (x.v ||| x.w)) x.e x.c) := by
    unfold mayC
    congr 1
    exact decide_eq_decide.2 ⟨fun ⟨a, b, c, d⟩ => ⟨hap.2 ⟨a, b, c⟩, fun q => d (hz.1 q)⟩, fun ⟨a, b⟩ => by
      obtain ⟨q1, q2, q3⟩ := hap.1 a
      exact ⟨q1, q2, q3, fun q => b (hz.2 q)⟩⟩
  clear hap hz hvw
  revert hM m1 m2 m3 v1 j1 c1 c2 k1 k2 k3 hn n1 n2 n3 he hc1
  generalize mayC x = M
  obtain ⟨v, w, l, e, k⟩ := x
  simp only
  generalize v ||| w = u
  generalize u ||| l = t
  generalize countF u = n
  generalize countF t = nt
  generalize countF v = nv
  generalize countF w = nw
  generalize countF l = nl
  intro m1 m2 m3 v1 j1 c1 c2 k1 k2 k3 hn n1 n2 n3 he hk hM
  unfold i64R at he hk
  have ret : ∀ (r : Bool) (σ : St), r = M → wret (some (.bool r)) 0 (fun r s => r = .bool M ∧ s = []) σ := fun r σ h => by subst h; exact wret_0 (argS_no rfl) ⟨rfl, rfl⟩
  have e1 : IntKind.i64.wrap ((nv : Int) + nw) = ((nv + nw : Nat) : Int) := by rw [i64_id (by omega) (by omega)]; rfl
  have e2 : IntKind.i64.wrap (((nv + nw : Nat) : Int) + nl) = ((nv + nw + nl : Nat) : Int) := by rw [i64_id (by omega) (by omega)]; rfl
  simp at e2
  refine VCalls.introV 0 Try.func65 Try.ntmps65 Try.results65 rfl rfl (Nat.le_of_ble_eq_true rfl) fun c hc hb => ?_
  refine wVW_code ?_
  simp [go_sem]
  refine wVC_pure m1 Try.callB79 (args_no rfl) rfl ?_
  simp [go_sem]
  refine wVC_pure m2 Try.callB79 (args_no rfl) rfl ?_
  simp [go_sem]
  refine wVC_pure m3 Try.callB79 (args_no rfl) rfl ?_
  simp [go_sem]
  refine wdraw [(1, 0), (4, 0)] 1 rfl (by kernel_rfl) (by kernel_rfl) ?_
  simp [go_sem]
  refine wVD_pure v1 Try.callB78 (fun _ => args_no rfl) rfl ?_
  simp [go_sem]
  refine wVD_pure j1 Try.callB68 (fun _ => args_no rfl) rfl ?_
  simp [go_sem]
  refine wVC_pure v1 Try.callB78 (args_no rfl) rfl ?_
  simp [go_sem]
  refine wVC_pure c1 Try.callB77 (args_no rfl) rfl ?_
  simp [go_sem]
  refine wdraw [(1, 0), (4, 0), (7, 0), (11, 0), (17, 0)] 1 rfl (by kernel_rfl) (by kernel_rfl) ?_
  simp [go_sem]
  refine wVD_pure c2 Try.callB77 (fun _ => args_no rfl) rfl ?_
  simp [go_sem]
  refine wVD_pure k1 Try.callB77 (fun _ => args_no rfl) rfl ?_
  simp [go_sem]
  refine wVD_pure k2 Try.callB77 (fun _ => args_no rfl) rfl ?_
  simp [go_sem, e1]
  refine wVD_pure k3 Try.callB77 (fun _ => args_no rfl) rfl ?_
  simp [go_sem, e2]
  by_cases hs : nt = nv + nw + nl
  rotate_left
  · have hs' : ((nt : Int) != nv + nw + nl) = true := by simp; omega
    simp [go_sem, hs']
    exact ret _ _ (by rw [hM, decide_eq_false (fun q => hs q.1)]; rfl)
  have hs' : ((nt : Int) != nv + nw + nl) = false := by simp; omega
  simp [go_sem, hs']
  refine wVD_pure k1 Try.callB77 (fun _ => args_no rfl) rfl ?_
  simp [go_sem]
  refine wcond_i (fun h4 => ?_) (fun h4 => ?_)
  · have h4 : nv = 0 := by simp at h4; omega
    simp [go_sem]
    exact ret _ _ (by rw [hM, decide_eq_false (fun q => q.2 h4)]; rfl)
  have h4 : nv ≠ 0 := by simp at h4; omega
  rw [decide_eq_true ⟨hs, h4⟩, Bool.true_and] at hM
  simp [go_sem]
  have fin : ∀ (r : Bool) (σ : St), (r = true ↔ (1 ≤ e ∧ e ≤ n ∧ 1 ≤ k ∧ k ≤ n ∧ n - k < e ∧ n - e < e)) → wret (some (.bool r)) 0 (fun r s => r = .bool M ∧ s = []) σ := fun r σ h => ret _ _ (by
    rw [hM]
    unfold mayQ
    exact (Bool.eq_iff_iff.2 (by rw [decide_eq_true_iff]; exact h)))
  have w1 : 1 ≤ k → k ≤ n → 1 ≤ e → e ≤ n → IntKind.i64.wrap (e + k) = e + k := fun _ _ _ _ => i64_id (by omega) (by omega)
  have w2 : 1 ≤ e → e ≤ n → IntKind.i64.wrap (2 * e) = 2 * e := fun _ _ => i64_id (by omega) (by omega)
  clear hM ret
  repeat' (first | (refine wgrd_i (fun q => ?_) (fun q => ?_) <;> simp [go_sem, q]) | (refine fin _ _ ?_))
  all_goals simp at *
  all_goals (try rw [w1 (by omega) (by omega) (by omega) (by omega)] at *)
  all_goals (try rw [w2 (by omega) (by omega)] at *)
  all_goals omega

/-- A joint of one configuration. -/
def zeroC : List V := [.int .u16 0, .int .u16 0, .int .u16 0, .int .i64 0, .int .i64 0]
@[go_sem] def joint1 (x : Cfg) : List V := [.int .u16 x.v, .int .u16 x.w, .int .u16 x.l, .int .i64 x.e, .int .i64 x.c, .int .u16 0, .int .u16 0, .int .u16 0, .int .i64 0, .int .i64 0, .bool false]
theorem Two_w (x : Cfg) : Pure Try.prog 82 [.agg (joint1 x)] (.sl .ro [x.row]) := by
  refine VCalls.intro 0 Try.func82 Try.ntmps82 Try.results82 rfl rfl (Nat.le_of_ble_eq_true rfl) fun c hc hb => wcode_of ?_
  simp [go_sem]
  exact wret_0 argS_ro ⟨rfl, rfl⟩
theorem Voting_w (x : Cfg) (hx : x.ok) : Pure Try.prog 69 [.agg (joint1 x)] (.int .u16 (x.v ||| x.w : Nat)) := by
  have v1 := refVotes_w x hx
  have hvw := okS_or hx.v hx.w
  have j1 := refJoin_w 0 (x.v ||| x.w) (by decide) hvw
  rw [Nat.zero_or] at j1
  revert v1 j1
  have t1 := Two_w x
  revert t1
  generalize x.v ||| x.w = u
  intro t1 v1 j1
  refine VCalls.introV 0 Try.func69 Try.ntmps69 Try.results69 rfl rfl (Nat.le_of_ble_eq_true rfl) fun c hc hb => ?_
  refine wVW_code ?_
  simp [go_sem]
  refine wVC_pure t1 Try.callB82 (args_eq (by simp [go_sem]) rfl) rfl ?_
  simp [go_sem]
  refine wVW_while (S := Bool) [3, 4, 5] (fun b => [.int .u16 (if b then u else 0 : Nat), .sl .ro [x.row], .int .i64 (if b then 1 else 0)]) (fun _ => []) (fun b => if b then 0 else 1) (fun _ => True) hc hb false trivial ?_ ?_
  · exact at_0 rfl (args_eq (by simp [go_sem]) rfl)
  intro b _
  refine wVW_code ?_
  refine (Bool.eq_false_or_eq_true b).elim (fun h => ?_) (fun h => ?_)
  · subst h
    simp [go_sem]
    exact wret_0 (argS_no rfl) ⟨rfl, rfl⟩
  · subst h
    simp [go_sem]
    refine wVC_pure v1 Try.callB78 (args_eq (by simp [go_sem]) rfl) rfl ?_
    simp [go_sem]
    refine wVC_pure j1 Try.callB68 (args_no rfl) rfl ?_
    simp [go_sem]
    exact next_i true ⟨by decide, trivial, at_0 rfl (args_eq (by simp [go_sem]) rfl)⟩

theorem DataJ_w (x : Cfg) (hx : x.ok) : Pure Try.prog 70 [.agg (joint1 x)] (.int .u16 (x.v ||| x.l : Nat)) := by
  have j1 := refJoin_w 0 x.v (by decide) hx.v
  have j2 := refJoin_w x.v x.l hx.v hx.l
  rw [Nat.zero_or] at j1
  revert j2
  have t1 := Two_w x
  revert t1
  generalize x.v ||| x.l = u
  intro t1 j2
  refine VCalls.introV 0 Try.func70 Try.ntmps70 Try.results70 rfl rfl (Nat.le_of_ble_eq_true rfl) fun c hc hb => ?_
  refine wVW_code ?_
  simp [go_sem]
  refine wVC_pure t1 Try.callB82 (args_eq (by simp [go_sem]) rfl) rfl ?_
  simp [go_sem]
  refine wVW_while (S := Bool) [3, 4, 5] (fun b => [.int .u16 (if b then u else 0 : Nat), .sl .ro [x.row], .int .i64 (if b then 1 else 0)]) (fun _ => []) (fun b => if b then 0 else 1) (fun _ => True) hc hb false trivial ?_ ?_
  · exact at_0 rfl (args_eq (by simp [go_sem]) rfl)
  intro b _
  refine wVW_code ?_
  refine (Bool.eq_false_or_eq_true b).elim (fun h => ?_) (fun h => ?_)
  · subst h
    simp [go_sem]
    exact wret_0 (argS_no rfl) ⟨rfl, rfl⟩
  · subst h
    simp [go_sem]
    refine wdraw [(6, 0), (12, 0)] 0 rfl (by kernel_rfl) (by kernel_rfl) ?_
    simp [go_sem]
    refine wVD_pure j1 Try.callB68 (fun _ => args_no rfl) rfl ?_
    simp [go_sem]
    refine wVD_pure j2 Try.callB68 (fun _ => args_no rfl) rfl ?_
    simp [go_sem]
    exact next_i true ⟨by decide, trivial, at_0 rfl (args_eq (by simp [go_sem]) rfl)⟩

/-- All nodes of a configuration. -/
def allS (x : Cfg) : Nat := (x.v ||| x.w) ||| (x.v ||| x.l)
theorem Members_w (x : Cfg) (hx : x.ok) : Pure Try.prog 49 [.agg (joint1 x)] (.int .u16 (allS x : Nat)) := by
  have v1 := Voting_w x hx
  have d1 := DataJ_w x hx
  have j1 := refJoin_w (x.v ||| x.w) (x.v ||| x.l) (okS_or hx.v hx.w) (okS_or hx.v hx.l)
  unfold allS
  refine VCalls.introV 0 Try.func49 Try.ntmps49 Try.results49 rfl rfl (Nat.le_of_ble_eq_true rfl) fun c hc hb => ?_
  refine wVW_code ?_
  simp [go_sem]
  refine wdraw [(1, 0), (3, 0), (4, 0)] 1 rfl (by kernel_rfl) (by kernel_rfl) ?_
  simp [go_sem]
  refine wVD_pure v1 Try.callB69 (fun _ => args_eq (by simp [go_sem]) rfl) rfl ?_
  simp [go_sem]
  refine wVD_pure d1 Try.callB70 (fun _ => args_eq (by simp [go_sem]) rfl) rfl ?_
  simp [go_sem]
  refine wVD_pure j1 Try.callB68 (fun _ => args_no rfl) rfl ?_
  simp [go_sem]
  exact wret_0 (argS_no rfl) ⟨rfl, rfl⟩
end Go.Proofs.Ytkmechkafhblpaa
namespace Go.Proofs.Ytkmechkafhblpaa
open Go Go.Vx
set_option maxRecDepth 100000

abbrev iRow : Int → List V := fun n => [V.int .i64 n]
/-- Whole numbers, as a slice that is only read. -/
def ints (l : List Int) : V := .sl .ro (l.map iRow)

theorem of_w (l : List Int) (i : Nat) (hl : l.length ≤ 1000) (h1 : 1 ≤ i) (hi : i ≤ 1000) : Pure Try.prog 92 [ints l, .int .i64 i] (.int .i64 (l.getD (i - 1) 0)) := by
  obtain ⟨j, rfl⟩ : ∃ j, i = j + 1 := ⟨i - 1, by omega⟩
  have e1 : IntKind.i64.wrap (((j + 1 : Nat) : Int) - 1) = (j : Int) := by rw [i64_id (by omega) (by omega)]; omega
  simp at e1
  refine VCalls.intro 0 Try.func92 Try.ntmps92 Try.results92 rfl rfl (Nat.le_of_ble_eq_true rfl) fun c hc hb => wcode_of ?_
  simp [go_sem, ints]
  refine wcond_i (fun q => ?_) (fun q => ?_)
  · have q : j < l.length := by simp at q; omega
    simp [go_sem, e1, q]
    exact wret_0 (argS_no rfl) ⟨rfl, rfl⟩
  · have q : l.length ≤ j := by simp at q; omega
    simp [go_sem]
    exact wret_0 (argS_no rfl) ⟨by rw [List.getElem?_eq_none q]; rfl, rfl⟩

/-- Which lists of regions may be. -/
def mayRegs (l : List Int) : Bool := (l.all fun r => decide (0 ≤ r ∧ r < 4)) && decide (1 ≤ l.length ∧ l.length ≤ 9)

theorem refMayRegions_w (l : List Int) (hl : l.length ≤ maxLen) : Pure Try.prog 42 [ints l] (.bool (mayRegs l)) := by
  generalize hM : mayRegs l = M
  have ret : ∀ (r : Bool) (σ : St), r = M → wret (some (.bool r)) 0 (fun r s => r = .bool M ∧ s = []) σ := fun r σ h => by subst h; exact wret_0 (argS_no rfl) ⟨rfl, rfl⟩
  unfold mayRegs at hM
  refine VCalls.introV 0 Try.func42 Try.ntmps42 Try.results42 rfl rfl (Nat.le_of_ble_eq_true rfl) fun c hc hb => ?_
  refine wVW_code ?_
  simp [go_sem, ints]
  refine wVW_while (S := Nat) [0, 3] (fun i => [ints l, .int .i64 i]) (fun _ => []) (fun i => l.length - i) (fun i => i ≤ l.length ∧ ((l.drop i).all fun r => decide (0 ≤ r ∧ r < 4)) = (l.all fun r => decide (0 ≤ r ∧ r < 4))) hc hb 0 ⟨Nat.zero_le _, rfl⟩ ?_ ?_
  · exact at_0 rfl (args_eq (by simp [go_sem, ints]) rfl)
  rintro i ⟨hi, hinv⟩
  refine wVW_code ?_
  simp [go_sem, ints]
  refine wcond_i (fun q => ?_) (fun q => ?_)
  · have q : i < l.length := by simpa using q
    have ei := i64_inc q (by unfold maxLen at hl; omega)
    obtain ⟨r, hr⟩ : ∃ r, l[i] = r := ⟨_, rfl⟩
    rw [List.drop_eq_getElem_cons q, List.all_cons, hr] at hinv
    simp [go_sem, q, hr]
    refine wgrd_i (fun w => ?_) (fun w => ?_)
    · have w1 : ¬ r < 0 := by simpa using w
      simp [go_sem, w, q, hr]
      refine wcond_i (fun w2 => ?_) (fun w2 => ?_)
      · have w2 : 4 ≤ r := by simpa using w2
        rw [decide_eq_false (by omega), Bool.false_and] at hinv
        simp [go_sem]
        exact ret _ _ (by rw [← hM, ← hinv]; rfl)
      · have w2 : ¬ 4 ≤ r := by simpa using w2
        rw [decide_eq_true (by omega), Bool.true_and] at hinv
        simp [go_sem, ei]
        exact next_i (i + 1) ⟨by omega, ⟨q, hinv⟩, at_0 rfl (args_eq (by simp [go_sem, ints, ei]) rfl)⟩
    · have w1 : r < 0 := by simpa using w
      rw [decide_eq_false (by omega), Bool.false_and] at hinv
      simp [go_sem, w]
      exact ret _ _ (by rw [← hM, ← hinv]; rfl)
  · have q : i = l.length := by have : ¬ i < l.length := by simpa using q
                                omega
    subst q
    rw [List.drop_length, List.all_nil] at hinv
    rw [← hinv, Bool.true_and] at hM
    simp [go_sem]
    repeat' (first | (refine wgrd_i (fun q => ?_) (fun q => ?_) <;> simp [go_sem, q]) | (refine ret _ _ ?_))
    all_goals
      rw [← hM]
      simp at q
      first
      | exact decide_eq_decide.2 (by omega)
      | exact (decide_eq_false (by omega)).symm
end Go.Proofs.Ytkmechkafhblpaa
namespace Go.Proofs.Ytkmechkafhblpaa
open Go Go.Vx
set_option maxRecDepth 100000

theorem argS_rows {ρ : Nat → Nat} {g : Tag} {rows rows' : List (List V)} (h : rows' = rows) : argS ρ (.sl .ro rows') (.sl g rows) := by subst h; exact argS_ro
/-- Which lists of a zone may be. -/
def nOk (l : List Int) : Bool := l.all fun n => decide (0 ≤ n ∧ n ≤ 9)
def lOk (l : List Int) : Bool := decide (l.length ≤ 4) && nOk l
def zOk (z : GZone) : Bool := (lOk z.voters && (lOk z.witnesses && lOk z.learners)) && decide (0 ≤ z.elect ∧ z.elect ≤ 9 ∧ 0 ≤ z.commit ∧ z.commit ≤ 9 ∧ 0 ≤ z.survive ∧ z.survive ≤ 2)
def lists (ll : List (List Int)) : List (List V) := ll.map fun l => [ints l]

theorem refMayZone_w (z : GZone) (hz : z.voters.length ≤ 1000 ∧ z.witnesses.length ≤ 1000 ∧ z.learners.length ≤ 1000) : Pure Try.prog 74 [.agg z.row] (.bool (zOk z)) := by
  generalize hM : zOk z = M
  have ret : ∀ (r : Bool) (σ : St), r = M → wret (some (.bool r)) 0 (fun r s => r = .bool M ∧ s = []) σ := fun r σ h => by subst h; exact wret_0 (argS_no rfl) ⟨rfl, rfl⟩
  unfold zOk at hM
  obtain ⟨v, w, l, e, k, sv⟩ := z
  simp only at hM hz
  refine VCalls.introV 0 Try.func74 Try.ntmps74 Try.results74 rfl rfl (Nat.le_of_ble_eq_true rfl) fun c hc hb => ?_
  refine wVW_code ?_
  simp [go_sem]
  obtain ⟨ll, hll⟩ : ∃ ll, [v, w, l] = ll := ⟨_, rfl⟩
  have h3 : ll.length = 3 := by rw [← hll]; rfl
  have hlen : ∀ x ∈ ll, x.length ≤ 1000 := fun x hx => by
    rw [← hll] at hx
    simp at hx
    rcases hx with rfl | rfl | rfl <;> omega
  have hall : ll.all lOk = (lOk v && (lOk w && lOk l)) := by
    rw [← hll]
    simp only [List.all_cons, List.all_nil, Bool.and_true]
  rw [← hall] at hM
  have hM2 := hM.symm
  clear hall hM
  refine wVW_while (S := Nat) [1, 3, 4] (fun i => [.ptr 0 0, .sl .ro (lists ll), .int .i64 i]) (fun _ => [.box (GZone.row ⟨v, w, l, e, k, sv⟩)]) (fun i => 3 - i) (fun i => i ≤ 3 ∧ (ll.drop i).all lOk = ll.all lOk) hc hb 0 ⟨Nat.zero_le _, rfl⟩ ?_ ?_
  · exact at_n 1 (by simp [go_sem]) rfl rfl (Nat.zero_le _) ⟨argS_lt rfl, argS_rows (by simp [lists, ← hll, ints]), argS_lt rfl, trivial⟩
  rintro i ⟨hi, hinv⟩
  refine wVW_code ?_
  simp [go_sem, lists]
  refine wcond_i (fun q => ?_) (fun q => ?_)
  · have q : i < 3 := by simp at q; omega
    have q3 : i < ll.length := by omega
    have ei := i64_inc q (by omega)
    obtain ⟨x, hx⟩ : ∃ x, ll[i] = x := ⟨_, rfl⟩
    have hxl := hlen x (hx ▸ List.getElem_mem q3)
    rw [List.drop_eq_getElem_cons q3, List.all_cons, hx] at hinv
    simp [go_sem, h3, q, hx, ints]
    try (refine wneed_i (by omega) ?_; simp [go_sem])
    refine wcond_i (fun w1 => ?_) (fun w1 => ?_)
    · have w1 : ¬ x.length ≤ 4 := by simp at w1; omega
      simp [go_sem]
      exact ret _ _ (by rw [hM2, ← hinv, lOk, decide_eq_false w1]; rfl)
    have w1 : x.length ≤ 4 := by simp at w1; omega
    have hlx : lOk x = nOk x := by rw [lOk, decide_eq_true w1, Bool.true_and]
    rw [hlx] at hinv
    simp [go_sem]
    refine wVW_while (S := Nat) [1, 3, 4, 5] (fun j => [.ptr 0 0, .sl .ro (lists ll), .int .i64 i, .int .i64 j]) (fun _ => [.box (GZone.row ⟨v, w, l, e, k, sv⟩)]) (fun j => x.length - j) (fun j => j ≤ x.length ∧ nOk (x.drop j) = nOk x) hc hb 0 ⟨Nat.zero_le _, rfl⟩ ?_ ?_
    · exact at_n 1 (by simp [go_sem]) rfl rfl (Nat.zero_le _) (args_lt_eq (by simp [go_sem, lists, ints]) rfl)
    rintro j ⟨hj, hjn⟩
    refine wVW_code ?_
    simp [go_sem, lists, h3, q, q3, hx, ints]
    try (refine wneed_i (by omega) ?_; simp [go_sem])
    refine wcond_i (fun q2 => ?_) (fun q2 => ?_)
    · have q2 : j < x.length := by simpa using q2
      have ej := i64_inc q2 (by omega)
      obtain ⟨n, hn⟩ : ∃ n, x[j] = n := ⟨_, rfl⟩
      rw [List.drop_eq_getElem_cons q2, nOk, List.all_cons, hn] at hjn
      simp [go_sem, q2, hn, h3, q, q3, hx, ints]
      try (refine wneed_i (by omega) ?_; simp [go_sem, q2, hn])
      refine wgrd_i (fun w2 => ?_) (fun w2 => ?_)
      · have w3 : ¬ n < 0 := by simpa using w2
        simp [go_sem, w2, q2, hn, h3, q, q3, hx, ints]
        try (refine wneed_i (by omega) ?_; simp [go_sem, q2, hn])
        refine wcond_i (fun w4 => ?_) (fun w4 => ?_)
        · have w4 : ¬ n ≤ 9 := by simp at w4; omega
          rw [decide_eq_false (by omega), Bool.false_and] at hjn
          simp [go_sem]
          exact ret _ _ (by rw [hM2, ← hinv, ← hjn]; rfl)
        · have w4 : n ≤ 9 := by simp at w4; omega
          rw [decide_eq_true (by omega), Bool.true_and] at hjn
          simp [go_sem, ej]
          exact next_i (j + 1) ⟨by omega, ⟨q2, hjn⟩, at_n 1 (by simp [go_sem]) rfl rfl (Nat.zero_le _) (args_lt_eq (by simp [go_sem, ints, ej]) rfl)⟩
      · have w3 : n < 0 := by simpa using w2
        rw [decide_eq_false (by omega), Bool.false_and] at hjn
        simp [go_sem, w2]
        exact ret _ _ (by rw [hM2, ← hinv, ← hjn]; rfl)
    · have q2 : j = x.length := by have : ¬ j < x.length := by simpa using q2
                                   omega
      subst q2
      rw [List.drop_length] at hjn
      rw [← hjn] at hinv
      simp [go_sem, ei]
      exact next_i (i + 1) ⟨by omega, ⟨q, hinv⟩, at_n 1 (by simp [go_sem]) rfl rfl (Nat.zero_le _) (args_lt_eq (by simp [go_sem, lists, ints, ei]) rfl)⟩
  · have q : i = 3 := by simp at q; omega
    subst q
    rw [List.drop_of_length_le (by omega)] at hinv
    rw [← hinv, List.all_nil, Bool.true_and] at hM2
    simp [go_sem]
    repeat' (first | (refine wgrd_i (fun q => ?_) (fun q => ?_) <;> simp [go_sem, q]) | (refine ret _ _ ?_))
    all_goals
      rw [hM2]
      simp at *
      first
      | omega
      | simp [*]
end Go.Proofs.Ytkmechkafhblpaa
