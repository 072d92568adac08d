/-
  Contracts of functions that the claimed statement reaches, each proved over trees (the library Vx); used by the theorem at the end of the claim.
  Conditions: as each theorem states them.
-/
import Derived.Test.YtkmechkafhblpaaRmB
namespace Go.Proofs.Ytkmechkafhblpaa.R
open Go Go.Vx
set_option maxRecDepth 100000

theorem xor63 (a : Nat) (h : a < 2 ^ 64) : a ^^^ 2 ^ 63 = (2 ^ 63 + a) % 2 ^ 64 := by
  apply Nat.eq_of_testBit_eq
  intro j
  rw [Nat.testBit_xor, Nat.testBit_two_pow, Nat.testBit_mod_two_pow]
  rcases Nat.lt_trichotomy j 63 with h1 | h1 | h1
  · rw [Nat.testBit_two_pow_add_gt h1]
    simp [show j < 64 by omega, show ¬ 63 = j by omega]
  · subst h1
    rw [Nat.testBit_two_pow_add_eq]
    simp
  · rw [Nat.testBit_lt_two_pow (Nat.lt_of_lt_of_le h (Nat.pow_le_pow_right (by decide) (by omega)))]
    simp [show ¬ j < 64 by omega, show ¬ 63 = j by omega]
theorem order_x {n : Int} (h1 : -9223372036854775808 ≤ n) (h2 : n ≤ 9223372036854775807) : bitsV .xor .u64 (IntKind.u64.wrap n) 9223372036854775808 = (((n + 9223372036854775808).toNat : Nat) : Int) := by
  obtain ⟨a, ha, hlt⟩ : ∃ a : Nat, IntKind.u64.wrap n = (a : Int) ∧ (a : Int) = n % 18446744073709551616 := by
    unfold IntKind.wrap
    simp [IntKind.bits, IntKind.signed]
    exact ⟨(n % 18446744073709551616).toNat, by omega, by omega⟩
  have hl : a < 2 ^ 64 := by omega
  show IntKind.u64.wrap ((BitVec.ofInt 64 (IntKind.u64.wrap n) ^^^ BitVec.ofInt 64 ((9223372036854775808 : Nat) : Int)).toNat : Int) = _
  rw [ha, BitVec.ofInt_natCast, BitVec.ofInt_natCast, BitVec.toNat_xor, BitVec.toNat_ofNat, BitVec.toNat_ofNat, Nat.mod_eq_of_lt hl, show 9223372036854775808 % 2 ^ 64 = 2 ^ 63 by decide, xor63 a hl]
  unfold IntKind.wrap
  simp [IntKind.bits, IntKind.signed]
  omega

-- the order of numbers
theorem Order_w (n : Int) (hn : i64R n) : Pure Try.prog 36 [.int .i64 n] (.int .u64 (n + 9223372036854775808).toNat) := by
  have e := order_x hn.1 hn.2
  refine VCalls.intro 0 Try.func36 Try.ntmps36 Try.results36 rfl rfl (Nat.le_of_ble_eq_true rfl) fun c hc hb => wcode_of ?_
  simp [go_sem, e]
  exact wret_0 (argS_no rfl) ⟨rfl, rfl⟩
theorem refOrder_w (n : Int) (hn : i64R n) : Pure Try.prog 38 [.int .i64 n] (.int .u64 (n + 9223372036854775808).toNat) := by
  unfold i64R at hn
  refine VCalls.intro 0 Try.func38 Try.ntmps38 Try.results38 rfl rfl (Nat.le_of_ble_eq_true rfl) fun c hc hb => wcode_of ?_
  simp [go_sem]
  refine wcond_i (fun q => ?_) (fun q => ?_)
  · have q : 0 ≤ n := by simpa using q
    have e1 : IntKind.u64.wrap n = n := u64_id (by omega) (by omega)
    have e2 : IntKind.u64.wrap (9223372036854775808 + n) = ((n + 9223372036854775808).toNat : Int) := by rw [u64_id (by omega) (by omega)]; omega
    simp [go_sem, e1, e2]
    exact wret_0 (argS_no rfl) ⟨rfl, rfl⟩
  · have q : n < 0 := by simpa using q
    have e1 : IntKind.i64.wrap (n + 9223372036854775807) = n + 9223372036854775807 := i64_id (by omega) (by omega)
    have e2 : IntKind.i64.wrap (n + 9223372036854775807 + 1) = n + 9223372036854775807 + 1 := i64_id (by omega) (by omega)
    have e3 : IntKind.u64.wrap (n + 9223372036854775807 + 1) = ((n + 9223372036854775808).toNat : Int) := by rw [u64_id (by omega) (by omega)]; omega
    simp [go_sem, e1, e2, e3]
    exact wret_0 (argS_no rfl) ⟨rfl, rfl⟩

theorem u8_lt (n : Int) : IntKind.u8.wrap n < 256 := by
  unfold IntKind.wrap
  simp [IntKind.bits, IntKind.signed]
  omega
theorem tab_le (l : List UInt8) (h : l.all (fun c => decide (c.toNat ≤ 8)) = true) (i : Nat) : (l[i]?.getD 0).toNat ≤ 8 := by
  rcases Nat.lt_or_ge i l.length with q | q
  · rw [List.getElem?_eq_getElem q]
    simpa using List.all_eq_true.1 h _ (List.getElem_mem q)
  · rw [List.getElem?_eq_none q]; decide
theorem len_fin {a : Nat} (ha : a ≤ 64) : ∃ n : Nat, V.int .i64 (a : Int) = .int .i64 n ∧ n ≤ 64 := ⟨a, rfl, ha⟩
theorem len_fin0 {n : Int} (h0 : 0 ≤ n) (h : n ≤ 64) : ∃ m : Nat, V.int .i64 n = .int .i64 m ∧ m ≤ 64 := ⟨n.toNat, by congr 1; omega, by omega⟩
/-- How many bits a number has: 64 at most. -/
theorem Len64_w (v : Nat) (hv : v < 18446744073709551616) : VCalls Try.prog 56 [.int .u64 v] [] fun r s => (∃ n : Nat, r = .int .i64 n ∧ n ≤ 64) ∧ s = [] := by
  have w48 : IntKind.i64.wrap 48 = 48 := by decide +kernel
  have w40 : IntKind.i64.wrap 40 = 40 := by decide +kernel
  have w16 : IntKind.i64.wrap 16 = 16 := by decide +kernel
  have w8 : IntKind.i64.wrap 8 = 8 := by decide +kernel
  have w56 : IntKind.i64.wrap (48 + 8) = 56 := by decide +kernel
  have w24 : IntKind.i64.wrap (16 + 8) = 24 := by decide +kernel
  refine VCalls.intro 0 Try.func56 Try.ntmps56 Try.results56 rfl rfl (Nat.le_of_ble_eq_true rfl) fun c hc hb => wcode_of ?_
  simp [go_sem]
  repeat' (refine wcond_i (fun q => ?_) (fun q => ?_) <;> simp [go_sem])
  all_goals
    refine wneed_i (u8_lt _) ?_
    generalize hx : UInt8.toNat (Option.getD _ _) = x
    have h8 : x ≤ 8 := hx ▸ tab_le _ (by decide +kernel) _
    clear hx
    have e8 : IntKind.i64.wrap (x : Int) = x := i64_id (by omega) (by omega)
    simp [go_sem, e8]
  all_goals
    try simp only [w48, w40, w16, w8, w56, w24]
    first
    | exact wret_0 (argS_no rfl) ⟨len_fin0 (by omega) (by omega), rfl⟩
    | (rw [i64_id (by omega) (by omega)]
       exact wret_0 (argS_no rfl) ⟨len_fin0 (by omega) (by omega), rfl⟩)

theorem fdiv_be (v k : Nat) (hk : k ≤ 7) : IntKind.u8.wrap ((v : Int).fdiv (2 ^ (8 * k))) = ((UInt8.ofNat (v / 256 ^ k)).toNat : Int) := by
  have e : (v : Int).fdiv (2 ^ (8 * k)) = ((v / 256 ^ k : Nat) : Int) := by
    rw [Int.fdiv_eq_ediv_of_nonneg _ (by exact Int.le_of_lt (Int.pow_pos (by decide)))]
    rw [show (2 : Int) ^ (8 * k) = ((256 ^ k : Nat) : Int) by rw [Int.pow_mul]; simp]
    rw [Int.natCast_ediv]
  rw [e, u8_nat]

theorem Put_w (b : List UInt8) (v : Nat) (hb0 : b.length ≤ maxB) (hv : v < 18446744073709551616) : Pure Try.prog 35 [bys b, .int .u64 v, .int .i64 8] (.tup [bys (b ++ be v 8), .int .i64 0]) := by
  refine VCalls.introV 0 Try.func35 Try.ntmps35 Try.results35 rfl rfl (Nat.le_of_ble_eq_true rfl) fun c hc hb => ?_
  refine wVW_code ?_
  simp [go_sem, bys]
  refine wVC_rel (R := fun r => ∃ n : Nat, r = .int .i64 n ∧ n ≤ 64) (Len64_w v hv) Try.callB56 (args_no rfl) (fun r h => by obtain ⟨b, rfl, _⟩ := h; rfl) ?_
  rintro r ⟨n, rfl, hn⟩
  have e64 : IntKind.i64.wrap 64 = 64 := by decide +kernel
  simp [go_sem, e64]
  refine wcond_i (fun q => absurd q (by simp; omega)) (fun q => ?_)
  simp [go_sem]
  refine wVC_new0 (room_w b 8 hb0 (by decide)) Try.callB39 (args_no rfl) ?_
  rintro r s ⟨rfl, rfl⟩
  simp [go_sem, byA, stA]
  have ew : ∀ k : Nat, k ≤ 8 → IntKind.i64.wrap (8 * (k : Int) - 8) = 8 * (k : Int) - 8 := fun k h => i64_id (by omega) (by omega)
  have e56 : IntKind.i64.wrap (8 * IntKind.i64.wrap 7) = 56 := by decide +kernel
  refine wVW_while (S := Nat × List UInt8) [1, 8, 9] (fun u => [.int .u64 v, byA u.2, .int .i64 (8 * (u.1 : Int) - 8)]) (fun u => stA u.2) (fun u => u.1) (fun u => u.1 ≤ 8 ∧ u.2 ++ be v u.1 = b ++ be v 8) hc hb (8, b) ⟨Nat.le_refl _, rfl⟩ ?_ ?_
  · exact at_n 1 (by simp [stA]) rfl rfl (Nat.zero_le _) (args_lt_eq (by simp [go_sem, byA, e56]) rfl)
  rintro ⟨k, out⟩ ⟨hk, hout⟩
  simp only at hk hout
  have hol : out.length + k = b.length + 8 := by
    have := congrArg List.length hout
    simpa [be_len] using this
  refine wVW_code ?_
  simp [go_sem, byA, stA]
  refine wcond_i (fun q => ?_) (fun q => ?_)
  · obtain ⟨j, rfl⟩ : ∃ j, k = j + 1 := ⟨k - 1, by simp at q; omega⟩
    have e1 : IntKind.u64.wrap (8 * ((j + 1 : Nat) : Int) - 8) = ((8 * j : Nat) : Int) := by rw [u64_id (by omega) (by omega)]; omega
    have e2 : IntKind.i64.wrap (8 * ((j + 1 : Nat) : Int) - 8 - 8) = 8 * (j : Int) - 8 := by rw [i64_id (by omega) (by omega)]; omega
    have e3 := fdiv_be v j (by omega)
    simp [go_sem] at e1 e2
    simp [go_sem, e1, e2]
    refine wneed_i (by omega) ?_
    have e4 : min (8 * (j : Int)).toNat 64 = 8 * j := by omega
    simp [go_sem, e4, e3]
    refine wneed_i ⟨byteRows_len out, by rw [byteRows_len]; unfold maxB at hb0; omega, uni_one rfl⟩ ?_
    simp [go_sem, e2]
    rw [be] at hout
    refine next_i (j, out ++ [UInt8.ofNat (v / 256 ^ j)]) ⟨by simp only; omega, ⟨by simp only; omega, by simpa using hout⟩, at_n 1 (by simp) rfl rfl (Nat.zero_le _) (args_lt_eq (by simp [go_sem, byteRows, e2]) rfl)⟩
  · have : k = 0 := by simp at q; omega
    subst this
    rw [show be v 0 = [] from rfl, List.append_nil] at hout
    simp [go_sem]
    rw [← hout]
    exact wret_0 (argS_tup (vs' := [bys out, .int .i64 0]) ⟨argA_ro, argA_no rfl, trivial⟩) ⟨rfl, rfl⟩
end Go.Proofs.Ytkmechkafhblpaa.R
namespace Go.Proofs.Ytkmechkafhblpaa.R
open Go Go.Vx
set_option maxRecDepth 100000

/-- What goes round in Put of the reference: k bytes are laid. -/
def putX (v k : Nat) : List (List V) := List.replicate (8 - k) [.int .u8 0] ++ byteRows (be v k)
theorem putX_len {v k : Nat} (h : k ≤ 8) : (putX v k).length = 8 := by simp [putX, byteRows_len, be_len]; omega
theorem putX_set {v k : Nat} (h : k + 1 ≤ 8) : (putX v k).set (7 - k) [.int .u8 (UInt8.ofNat (v / 256 ^ k)).toNat] = putX v (k + 1) := by
  unfold putX
  rw [be, show (8 - k) = (8 - (k + 1)) + 1 by omega, List.replicate_succ', List.append_assoc, List.set_append_right _ _ (by simp)]
  rw [show 7 - k - (List.replicate (8 - (k + 1)) [V.int IntKind.u8 0]).length = 0 by simp]
  rfl

def isB (r : List V) : Prop := ∃ x, r = [.int .u8 x]
theorem putX_b (v k : Nat) : ∀ r ∈ putX v k, isB r := fun r hr => by
  unfold putX at hr
  rcases List.mem_append.1 hr with h | h
  · exact ⟨0, (List.mem_replicate.1 h).2⟩
  · obtain ⟨x, _, rfl⟩ := List.mem_map.1 h
    exact ⟨_, rfl⟩
theorem lst_b {rows : List (List V)} (h : ∀ r ∈ rows, isB r) (n : Nat) : [Ob.lst rows 1].all (ltOb n) = true := by
  simp only [List.all_cons, List.all_nil, Bool.and_true, ltOb, List.all_eq_true]
  intro r hr
  obtain ⟨x, rfl⟩ := h r hr
  intro y hy
  cases hy with
  | head => rfl
  | tail _ h => cases h
theorem pure_b {rows : List (List V)} (h : ∀ r ∈ rows, isB r) : pureRows rows = true := by
  simp only [pureRows, List.all_eq_true]
  intro r hr
  obtain ⟨x, rfl⟩ := h r hr
  intro y hy
  cases hy with
  | head => rfl
  | tail _ h => cases h
theorem putX_8 (v : Nat) : putX v 8 = byteRows (be v 8) := by simp [putX]

theorem refPut_w (v : Nat) (hv : v < 18446744073709551616) : Pure Try.prog 57 [bys [], .int .u64 v, .int .i64 8] (.tup [bys (be v 8), .int .i64 0]) := by
  refine VCalls.introV 0 Try.func57 Try.ntmps57 Try.results57 rfl rfl (Nat.le_of_ble_eq_true rfl) fun c hc hb => ?_
  refine wVW_hint 17 (by decide) ?_
  refine wVW_code ?_
  simp [go_sem, bys, byteRows]
  refine wVW_while (S := Nat × Nat) [0, 1, 8, 9] (fun u => [bys [], .int .u64 u.2, .lsv 0 1 8 0 8, .int .i64 (7 - (u.1 : Int))]) (fun u => [.lst (putX v u.1) 1]) (fun u => 8 - u.1) (fun u => u.1 ≤ 8 ∧ u.2 = v / 256 ^ u.1) hc hb (0, v) ⟨Nat.zero_le _, by simp⟩ ?_ ?_
  · exact at_n 1 (by simp [putX, be, byteRows]) rfl (lst_b (putX_b _ _) _) (Nat.zero_le _) (args_lt_eq (by simp [go_sem, bys, byteRows, show IntKind.i64.wrap 7 = 7 by decide +kernel]) rfl)
  rintro ⟨k, z⟩ ⟨hk, hz⟩
  simp only at hk hz
  have hzl : z ≤ v := hz ▸ Nat.div_le_self _ _
  have hpl := putX_len (v := v) hk
  refine wVW_code ?_
  simp [go_sem]
  refine wcond_i (fun q => ?_) (fun q => ?_)
  · have q : k + 1 ≤ 8 := by simp at q; omega
    have e0 : ((7 : Int) - k).toNat = 7 - k := by omega
    have e1 : IntKind.i64.wrap (7 - (k : Int) - 1) = 7 - ((k : Int) + 1) := by rw [i64_id (by omega) (by omega)]; omega
    have e2 : IntKind.u64.wrap ((z : Int) / 256) = ((z / 256 : Nat) : Int) := by rw [u64_id (by omega) (by omega)]; omega
    have e3 : IntKind.u8.wrap ((z : Int).tmod 256) = ((UInt8.ofNat z).toNat : Int) := by
      rw [Int.tmod_eq_emod_of_nonneg (by omega), show (z : Int) % 256 = ((z % 256 : Nat) : Int) by omega, u8_nat]
      simp
    have hset := putX_set (v := v) q
    rw [← hz] at hset
    simp [go_sem]
    refine wneed_i ⟨by omega, by omega⟩ ?_
    have hget : ∀ h, (putX v k)[7 - k]'h = [.int .u8 0] := fun h => by
      have : (putX v k)[7 - k]? = some [.int .u8 0] := by
        unfold putX
        rw [List.getElem?_append_left (by simp; omega), List.getElem?_replicate, if_pos (by omega)]
      exact (List.getElem?_eq_some_iff.1 this).2
    simp at hset
    simp [go_sem, hpl, show 7 - k < 8 by omega, hget, e1, e2, e3]
    refine next_i (k + 1, z / 256) ⟨by simp only; omega, ⟨q, by rw [hz, Nat.pow_succ, Nat.div_div_eq_div_mul]⟩, at_n 1 (by simp [hset]) rfl (lst_b (putX_b _ _) _) (Nat.zero_le _) (args_lt_eq (by simp [go_sem, bys, byteRows, e1, e2]) rfl)⟩
  · have : k = 8 := by simp at q; omega
    subst this
    have hz0 : z = 0 := by rw [hz]; exact Nat.div_eq_of_lt (by omega)
    subst hz0
    simp [go_sem, bys, byteRows]
    refine wneed_i (fun r h => by cases h) ?_
    have hch : chunk (putX v 8) 0 8 = byteRows (be v 8) := by
      rw [putX_8]
      simp [chunk, List.take_of_length_le, byteRows_len, be_len, byteRows, dem]
    simp [go_sem, hpl, hch]
    refine wneed_i ⟨pure_b fun r hr => putX_b v 8 r (List.mem_of_mem_take hr), by rw [byteRows_len, be_len]; decide, byteRows_u _⟩ ?_
    simp [go_sem]
    exact wret_0 (argS_tup (vs' := [bys (be v 8), .int .i64 0]) ⟨argA_ro, argA_no rfl, trivial⟩) ⟨rfl, rfl⟩

theorem Eight_w (v : Nat) (hv : v < 18446744073709551616) : Pure Try.prog 37 [.int .u64 v] (bys (be v 8)) := by
  refine VCalls.intro 0 Try.func37 Try.ntmps37 Try.results37 rfl rfl (Nat.le_of_ble_eq_true rfl) fun c hc hb => wcode_of ?_
  simp [go_sem]
  refine wVC_pure (refPut_w v hv) Try.callB57 ⟨argS_rows rfl, argS_no rfl, argS_no rfl, trivial⟩ rfl ?_
  simp [go_sem]
  exact wret_0 (argS_no rfl) ⟨rfl, rfl⟩
end Go.Proofs.Ytkmechkafhblpaa.R
namespace Go.Proofs.Ytkmechkafhblpaa.R
open Go Go.Vx
set_option maxRecDepth 100000

theorem kind_cases {v : GValue} (h : mayF v = true) : v.kind = 0 ∨ v.kind = 1 ∨ v.kind = 2 ∨ v.kind = 3 := by
  unfold mayF at h
  by_cases h0 : v.kind = 0
  · exact .inl h0
  · by_cases h1 : v.kind = 1
    · exact .inr (.inl h1)
    · by_cases h2 : v.kind = 2
      · exact .inr (.inr (.inl h2))
      · by_cases h3 : v.kind = 3
        · exact .inr (.inr (.inr h3))
        · simp [h0, h1, h2, h3] at h
theorem esc_take {s : List UInt8} {i : Nat} (h : i < s.length) : esc (s.take (i + 1)) = esc (s.take i) ++ (if s[i] = 0 then [0, 255] else [s[i]]) := by
  rw [List.take_succ_eq_append_getElem h, esc_append]
  simp only [esc]

theorem uni_two {s : Nat} {a b : List V} (h1 : a.length = s) (h2 : b.length = s) : uni s [a, b] := fun r hr => by
  simp at hr
  rcases hr with rfl | rfl <;> assumption
theorem Key_w (b : List UInt8) (v : GValue) (hv : v.ok) (hb0 : b.length ≤ maxB - 1) (hs : v.s.length ≤ 500) : Pure Try.prog 24 [bys b, .agg v.row] (bys (b ++ keyF v)) := by
  refine VCalls.introV 0 Try.func24 Try.ntmps24 Try.results24 rfl rfl (Nat.le_of_ble_eq_true rfl) fun c hc hb => ?_
  refine wVW_code ?_
  obtain ⟨k, n, s⟩ := v
  have hn := hv.n
  simp only at hs hn
  simp [go_sem, bys, byteRows_len]
  refine wneed_i ⟨by unfold maxB at *; omega, by simp [uni], byteRows_u b⟩ ?_
  simp [go_sem]
  refine wVC_pure (May_w ⟨k, n, s⟩) Try.callB26 (args_no rfl) rfl ?_
  simp [go_sem]
  refine wcond_i (fun h => ?_) (fun h => ?_)
  · simp [go_sem]
    refine bys_ret ?_
    have h : mayF ⟨k, n, s⟩ = false := by simpa using h
    simp [keyF, h, byteRows]
  have h : mayF ⟨k, n, s⟩ = true := by simpa using h
  have hk := kind_cases h
  simp only at hk
  simp [go_sem, byteRows_len]
  refine wneed_i ⟨by unfold maxB at *; omega, uni_one rfl⟩ ?_
  have w0 : IntKind.u8.wrap 0 = 0 := by decide +kernel
  have w1 : IntKind.u8.wrap 1 = 1 := by decide +kernel
  have w2 : IntKind.u8.wrap 2 = 2 := by decide +kernel
  have w3 : IntKind.u8.wrap 3 = 3 := by decide +kernel
  rcases hk with rfl | rfl | rfl | rfl
  · simp [go_sem]
    refine bys_ret ?_
    simp [keyF, h, byteRows, w0]
  · have h1 : n = 0 ∨ n = 1 := by
      unfold mayF at h
      simp at h
      exact h.1
    simp [go_sem]
    refine wneed_i ⟨byteRows_len b, by rw [byteRows_len]; unfold maxB at *; omega, uni_one rfl⟩ ?_
    simp [go_sem]
    refine bys_ret ?_
    rcases h1 with rfl | rfl <;> simp [keyF, h, byteRows, w0, w1]
  · simp [go_sem]
    obtain ⟨u, hu⟩ : ∃ u, (n + 9223372036854775808).toNat = u := ⟨_, rfl⟩
    have hO := Order_w n hn
    rw [hu] at hO
    refine wVC_pure hO Try.callB36 (args_no rfl) rfl ?_
    simp [go_sem]
    refine wVC_pure (Put_w (b ++ [2]) u (by simp; unfold maxB at *; omega) (by omega)) Try.callB35 ⟨argS_rows (by simp [byteRows, w2]), argS_no rfl, argS_no rfl, trivial⟩ rfl ?_
    simp [go_sem]
    refine bys_ret ?_
    simp [keyF, h, hu]
  · simp [go_sem]
    refine wVW_while (S := Nat) [3, 5, 44, 45] (fun i => [.ptr 0 0, .sl (.app 1) (byteRows (b ++ 3 :: esc (s.take i))), .int .i64 s.length, .int .i64 i]) (fun i => [.box [.int .i64 3, .int .i64 n, .str s], .app (b ++ 3 :: esc (s.take i)).length 1]) (fun i => s.length - i) (fun i => i ≤ s.length) hc hb 0 (Nat.zero_le _) ?_ ?_
    · exact at_n 2 (by simp [esc]) rfl rfl (Nat.zero_le _) (args_lt_eq (by simp [go_sem, esc, byteRows, w3]) rfl)
    intro i hi
    have hel := esc_len (s.take i)
    have htl : (s.take i).length ≤ s.length := by simp; omega
    obtain ⟨o, ho⟩ : ∃ o, b ++ 3 :: esc (s.take i) = o := ⟨_, rfl⟩
    have hol : o.length ≤ maxB + 1100 := by
      rw [← ho]
      simp
      unfold maxB at *
      omega
    rw [ho]
    refine wVW_code ?_
    simp [go_sem]
    refine wcond_i (fun q => ?_) (fun q => ?_)
    · have q : i < s.length := by simpa using q
      have ei := i64_inc q (by omega)
      have hnext := esc_take q
      obtain ⟨c0, hc0⟩ : ∃ c0, s[i] = c0 := ⟨_, rfl⟩
      simp [go_sem, q, hc0, byteRows_len]
      refine wneed_i ⟨by unfold maxB at *; omega, uni_one rfl⟩ ?_
      simp [go_sem, q, hc0]
      refine wcond_i (fun q2 => ?_) (fun q2 => ?_)
      · have q2 : c0 = 0 := by
          have : c0.toNat = 0 := by simp at q2; omega
          exact UInt8.toNat_inj.1 (by simpa using this)
        rw [hc0, if_pos q2] at hnext
        simp [go_sem, byteRows_len]
        refine wneed_i ⟨by unfold maxB at *; omega, uni_one rfl⟩ ?_
        simp [go_sem, ei]
        exact next_i (i + 1) ⟨by omega, q, at_n 2 (by simp [hnext, ← ho]; omega) rfl rfl (Nat.zero_le _) (args_lt_eq (by simp [go_sem, ei, hnext, ← ho, byteRows, q2]) rfl)⟩
      · have q2 : ¬ c0 = 0 := fun h => by rw [h] at q2; simp at q2
        rw [hc0, if_neg q2] at hnext
        simp [go_sem, ei]
        exact next_i (i + 1) ⟨by omega, q, at_n 2 (by simp [hnext, ← ho]; omega) rfl rfl (Nat.zero_le _) (args_lt_eq (by simp [go_sem, ei, hnext, ← ho, byteRows]) rfl)⟩
    · have q : i = s.length := by have : ¬ i < s.length := by simpa using q
                                  omega
      subst q
      simp [go_sem, byteRows_len]
      refine wneed_i ⟨by unfold maxB at *; omega, uni_two rfl rfl⟩ ?_
      simp [go_sem]
      refine bys_ret ?_
      rw [List.take_length] at ho
      simp [keyF, h, byteRows, ← ho]
theorem refKey_w (b : List UInt8) (v : GValue) (hv : v.ok) (hb0 : b.length ≤ maxB - 1) (hs : v.s.length ≤ 500) : Pure Try.prog 25 [bys b, .agg v.row] (bys (b ++ keyF v)) := by
  refine VCalls.introV 0 Try.func25 Try.ntmps25 Try.results25 rfl rfl (Nat.le_of_ble_eq_true rfl) fun c hc hb => ?_
  refine wVW_code ?_
  obtain ⟨k, n, s⟩ := v
  have hn := hv.n
  simp only at hs hn
  simp [go_sem, bys, byteRows_len]
  refine wneed_i ⟨by unfold maxB at *; omega, by simp [uni], byteRows_u b⟩ ?_
  simp [go_sem]
  refine wVC_pure (refMay_w ⟨k, n, s⟩) Try.callB27 (args_no rfl) rfl ?_
  simp [go_sem]
  refine wcond_i (fun h => ?_) (fun h => ?_)
  · simp [go_sem]
    refine bys_ret ?_
    have h : mayF ⟨k, n, s⟩ = false := by simpa using h
    simp [keyF, h, byteRows]
  have h : mayF ⟨k, n, s⟩ = true := by simpa using h
  have hk := kind_cases h
  simp only at hk
  simp [go_sem, byteRows_len]
  refine wneed_i ⟨by unfold maxB at *; omega, uni_one rfl⟩ ?_
  have w0 : IntKind.u8.wrap 0 = 0 := by decide +kernel
  have w1 : IntKind.u8.wrap 1 = 1 := by decide +kernel
  have w2 : IntKind.u8.wrap 2 = 2 := by decide +kernel
  have w3 : IntKind.u8.wrap 3 = 3 := by decide +kernel
  rcases hk with rfl | rfl | rfl | rfl
  · simp [go_sem]
    refine bys_ret ?_
    simp [keyF, h, byteRows, w0]
  · have h1 : n = 0 ∨ n = 1 := by
      unfold mayF at h
      simp at h
      exact h.1
    simp [go_sem]
    refine wneed_i ⟨byteRows_len b, by rw [byteRows_len]; unfold maxB at *; omega, uni_one rfl⟩ ?_
    simp [go_sem]
    refine bys_ret ?_
    rcases h1 with rfl | rfl <;> simp [keyF, h, byteRows, w0, w1]
  · simp [go_sem]
    obtain ⟨u, hu⟩ : ∃ u, (n + 9223372036854775808).toNat = u := ⟨_, rfl⟩
    have hO := refOrder_w n hn
    rw [hu] at hO
    refine wVC_pure hO Try.callB38 (args_no rfl) rfl ?_
    simp [go_sem]
    refine wVC_pure (Eight_w u (by omega)) Try.callB37 (args_no rfl) rfl ?_
    simp [go_sem, bys, byteRows_len]
    refine wneed_i ⟨by rw [be_len]; unfold maxB at *; omega, byteRows_u _⟩ ?_
    simp [go_sem]
    refine bys_ret ?_
    simp [keyF, h, hu, byteRows, w2]
  · simp [go_sem]
    refine wVW_while (S := Nat) [3, 5, 6] (fun i => [.ptr 0 0, .sl (.app 1) (byteRows (b ++ 3 :: esc (s.take i))), .int .i64 i]) (fun i => [.box [.int .i64 3, .int .i64 n, .str s], .app (b ++ 3 :: esc (s.take i)).length 1]) (fun i => s.length - i) (fun i => i ≤ s.length) hc hb 0 (Nat.zero_le _) ?_ ?_
    · exact at_n 2 (by simp [esc]) rfl rfl (Nat.zero_le _) (args_lt_eq (by simp [go_sem, esc, byteRows, w3]) rfl)
    intro i hi
    have hel := esc_len (s.take i)
    have htl : (s.take i).length ≤ s.length := by simp; omega
    obtain ⟨o, ho⟩ : ∃ o, b ++ 3 :: esc (s.take i) = o := ⟨_, rfl⟩
    have hol : o.length ≤ maxB + 1100 := by
      rw [← ho]
      simp
      unfold maxB at *
      omega
    rw [ho]
    refine wVW_code ?_
    simp [go_sem]
    refine wcond_i (fun q => ?_) (fun q => ?_)
    · have q : i < s.length := by simpa using q
      have ei := i64_inc q (by omega)
      have hnext := esc_take q
      obtain ⟨c0, hc0⟩ : ∃ c0, s[i] = c0 := ⟨_, rfl⟩
      simp [go_sem, q, hc0, byteRows_len]
      refine wneed_i ⟨by unfold maxB at *; omega, uni_one rfl⟩ ?_
      simp [go_sem, q, hc0]
      refine wcond_i (fun q2 => ?_) (fun q2 => ?_)
      · have q2 : c0 = 0 := by
          have : c0.toNat = 0 := by simp at q2; omega
          exact UInt8.toNat_inj.1 (by simpa using this)
        rw [hc0, if_pos q2] at hnext
        simp [go_sem, byteRows_len]
        refine wneed_i ⟨by unfold maxB at *; omega, uni_one rfl⟩ ?_
        simp [go_sem, ei]
        exact next_i (i + 1) ⟨by omega, q, at_n 2 (by simp [hnext, ← ho]; omega) rfl rfl (Nat.zero_le _) (args_lt_eq (by simp [go_sem, ei, hnext, ← ho, byteRows, q2]) rfl)⟩
      · have q2 : ¬ c0 = 0 := fun h => by rw [h] at q2; simp at q2
        rw [hc0, if_neg q2] at hnext
        simp [go_sem, ei]
        exact next_i (i + 1) ⟨by omega, q, at_n 2 (by simp [hnext, ← ho]; omega) rfl rfl (Nat.zero_le _) (args_lt_eq (by simp [go_sem, ei, hnext, ← ho, byteRows]) rfl)⟩
    · have q : i = s.length := by have : ¬ i < s.length := by simpa using q
                                  omega
      subst q
      simp [go_sem, byteRows_len]
      refine wneed_i ⟨by unfold maxB at *; omega, uni_two rfl rfl⟩ ?_
      simp [go_sem]
      refine bys_ret ?_
      rw [List.take_length] at ho
      simp [keyF, h, byteRows, ← ho]
end Go.Proofs.Ytkmechkafhblpaa.R
namespace Go.Proofs.Ytkmechkafhblpaa.R
open Go Go.Vx
set_option maxRecDepth 100000

/-- How two values stand. -/
def compF (a b : GValue) : Int :=
  if a.kind ≠ b.kind then (if a.kind < b.kind then -1 else 1) else if a.n ≠ b.n then (if a.n < b.n then -1 else 1) else if a.s ≠ b.s then (if Op.bytesLess a.s b.s then -1 else 1) else 0
/-- Is there such a table? -/
def isF (n : Nat) (t : Int) : Bool := decide (0 ≤ t) && decide (t < n)
theorem isF_nat {n : Nat} {t : Int} (h : isF n t = true) : ∃ j : Nat, t = j ∧ j < n := by
  simp [isF] at h
  exact ⟨t.toNat, by omega, by omega⟩
def boundF (n : Nat) (t : Int) (v : GValue) : List UInt8 := if isF n t = true then UInt8.ofNat (t.toNat + 1) :: keyF v else []
def allF (n : Nat) (t : Int) : List UInt8 × List UInt8 := if isF n t = true then ([UInt8.ofNat (t.toNat + 1)], [UInt8.ofNat (t.toNat + 2)]) else ([], [])

theorem Bound_w (regs tabs : List (List V)) (t : Int) (v : GValue) (hn : tabs.length ≤ maxB) (hv : v.ok) (hs : v.s.length ≤ 500) : Pure Try.prog 11 [.agg [.sl .ro regs, .sl .ro tabs], .int .i64 t, .agg v.row] (.str (boundF tabs.length t v)) := by
  have his := is_w regs tabs t
  rw [show (decide (0 ≤ t) && decide (t < tabs.length)) = isF tabs.length t from rfl] at his
  refine VCalls.intro 0 Try.func11 Try.ntmps11 Try.results11 rfl rfl (Nat.le_of_ble_eq_true rfl) fun c hc hb => wcode_of ?_
  simp [go_sem]
  refine wVC_pure his Try.callB19 (args_no rfl) rfl ?_
  unfold boundF
  refine (Bool.eq_false_or_eq_true (isF tabs.length t)).elim (fun h => ?_) (fun h => ?_)
  · obtain ⟨j, rfl, hj⟩ := isF_nat h
    rw [h, if_pos rfl]
    have e1 : IntKind.u8.wrap (IntKind.i64.wrap ((j : Int) + 1)) = ((UInt8.ofNat (j + 1)).toNat : Int) := by
      rw [i64_id (by omega) (by unfold maxB at hn; omega), show (j : Int) + 1 = ((j + 1 : Nat) : Int) by omega, u8_nat]
    simp [go_sem, e1]
    refine wVC_pure (Key_w [UInt8.ofNat (j + 1)] v hv (by simp [maxB]) hs) Try.callB24 ⟨argS_rows (by simp [byteRows]), argS_no rfl, trivial⟩ rfl ?_
    simp [go_sem, bys]
    refine wneed_i (byteRows_isBytes _) ?_
    simp [go_sem, byteRows_back]
    exact wret_0 (argS_no rfl) ⟨rfl, rfl⟩
  · rw [h]
    simp [go_sem]
    exact wret_0 (argS_no rfl) ⟨rfl, rfl⟩
theorem All_w (regs tabs : List (List V)) (t : Int) (hn : tabs.length ≤ maxB) : Pure Try.prog 9 [.agg [.sl .ro regs, .sl .ro tabs], .int .i64 t] (.tup [.str (allF tabs.length t).1, .str (allF tabs.length t).2]) := by
  have his := is_w regs tabs t
  rw [show (decide (0 ≤ t) && decide (t < tabs.length)) = isF tabs.length t from rfl] at his
  refine VCalls.intro 0 Try.func9 Try.ntmps9 Try.results9 rfl rfl (Nat.le_of_ble_eq_true rfl) fun c hc hb => wcode_of ?_
  simp [go_sem]
  refine wVC_pure his Try.callB19 (args_no rfl) rfl ?_
  unfold allF
  refine (Bool.eq_false_or_eq_true (isF tabs.length t)).elim (fun h => ?_) (fun h => ?_)
  · obtain ⟨j, rfl, hj⟩ := isF_nat h
    rw [h, if_pos rfl]
    obtain ⟨x, hx⟩ : ∃ x, UInt8.ofNat (j + 1) = x := ⟨_, rfl⟩
    obtain ⟨y, hy⟩ : ∃ y, UInt8.ofNat (j + 2) = y := ⟨_, rfl⟩
    have e1 : IntKind.u8.wrap (IntKind.i64.wrap ((j : Int) + 1)) = (x.toNat : Int) := by
      rw [i64_id (by omega) (by unfold maxB at hn; omega), show (j : Int) + 1 = ((j + 1 : Nat) : Int) by omega, u8_nat, hx]
    have e2 : IntKind.u8.wrap (IntKind.i64.wrap ((j : Int) + 2)) = (y.toNat : Int) := by
      rw [i64_id (by omega) (by unfold maxB at hn; omega), show (j : Int) + 2 = ((j + 2 : Nat) : Int) by omega, u8_nat, hy]
    simp only [Int.toNat_natCast, hx, hy]
    simp [go_sem]
    refine wdraw [] 1 rfl (by kernel_rfl) (by kernel_rfl) ?_
    simp [go_sem, e1, e2]
    refine wneed_i (byteRows_isBytes [x]) ?_
    have r1 : rowByte [V.int IntKind.u8 x.toNat] = x := by simp [rowByte]
    have r2 : rowByte [V.int IntKind.u8 y.toNat] = y := by simp [rowByte]
    simp [go_sem, e1, e2, r1]
    refine wneed_i (byteRows_isBytes [y]) ?_
    simp [go_sem, r2]
    exact wret_0 (argS_no rfl) ⟨by rw [← hx, ← hy]; simp, rfl⟩
  · rw [h]
    simp [go_sem]
    exact wret_0 (argS_no rfl) ⟨rfl, rfl⟩

theorem refBound_w (regs tabs : List (List V)) (t : Int) (v : GValue) (hn : tabs.length ≤ maxB) (hv : v.ok) (hs : v.s.length ≤ 500) : Pure Try.prog 12 [.agg [.sl .ro regs, .sl .ro tabs], .int .i64 t, .agg v.row] (.str (boundF tabs.length t v)) := by
  have his := refIs_w regs tabs t
  rw [show (decide (0 ≤ t) && decide (t < tabs.length)) = isF tabs.length t from rfl] at his
  refine VCalls.intro 0 Try.func12 Try.ntmps12 Try.results12 rfl rfl (Nat.le_of_ble_eq_true rfl) fun c hc hb => wcode_of ?_
  simp [go_sem]
  refine wVC_pure his Try.callB21 (args_no rfl) rfl ?_
  unfold boundF
  refine (Bool.eq_false_or_eq_true (isF tabs.length t)).elim (fun h => ?_) (fun h => ?_)
  · obtain ⟨j, rfl, hj⟩ := isF_nat h
    rw [h, if_pos rfl]
    have e1 : IntKind.u8.wrap (IntKind.i64.wrap ((j : Int) + 1)) = ((UInt8.ofNat (j + 1)).toNat : Int) := by
      rw [i64_id (by omega) (by unfold maxB at hn; omega), show (j : Int) + 1 = ((j + 1 : Nat) : Int) by omega, u8_nat]
    simp [go_sem, e1]
    refine wVC_pure (refKey_w [UInt8.ofNat (j + 1)] v hv (by simp [maxB]) hs) Try.callB25 ⟨argS_rows (by simp [byteRows]), argS_no rfl, trivial⟩ rfl ?_
    simp [go_sem, bys]
    refine wneed_i (byteRows_isBytes _) ?_
    simp [go_sem, byteRows_back]
    exact wret_0 (argS_no rfl) ⟨rfl, rfl⟩
  · rw [h]
    simp [go_sem]
    exact wret_0 (argS_no rfl) ⟨rfl, rfl⟩
theorem refAll_w (regs tabs : List (List V)) (t : Int) (hn : tabs.length ≤ maxB) : Pure Try.prog 10 [.agg [.sl .ro regs, .sl .ro tabs], .int .i64 t] (.tup [.str (allF tabs.length t).1, .str (allF tabs.length t).2]) := by
  have his := refIs_w regs tabs t
  rw [show (decide (0 ≤ t) && decide (t < tabs.length)) = isF tabs.length t from rfl] at his
  refine VCalls.intro 0 Try.func10 Try.ntmps10 Try.results10 rfl rfl (Nat.le_of_ble_eq_true rfl) fun c hc hb => wcode_of ?_
  simp [go_sem]
  refine wVC_pure his Try.callB21 (args_no rfl) rfl ?_
  unfold allF
  refine (Bool.eq_false_or_eq_true (isF tabs.length t)).elim (fun h => ?_) (fun h => ?_)
  · obtain ⟨j, rfl, hj⟩ := isF_nat h
    rw [h, if_pos rfl]
    obtain ⟨x, hx⟩ : ∃ x, UInt8.ofNat (j + 1) = x := ⟨_, rfl⟩
    obtain ⟨y, hy⟩ : ∃ y, UInt8.ofNat (j + 2) = y := ⟨_, rfl⟩
    have e1 : IntKind.u8.wrap (IntKind.i64.wrap ((j : Int) + 1)) = (x.toNat : Int) := by
      rw [i64_id (by omega) (by unfold maxB at hn; omega), show (j : Int) + 1 = ((j + 1 : Nat) : Int) by omega, u8_nat, hx]
    have e2 : IntKind.u8.wrap (IntKind.i64.wrap ((j : Int) + 2)) = (y.toNat : Int) := by
      rw [i64_id (by omega) (by unfold maxB at hn; omega), show (j : Int) + 2 = ((j + 2 : Nat) : Int) by omega, u8_nat, hy]
    simp only [Int.toNat_natCast, hx, hy]
    simp [go_sem]
    refine wdraw [] 1 rfl (by kernel_rfl) (by kernel_rfl) ?_
    simp [go_sem, e1, e2]
    refine wneed_i (byteRows_isBytes [x]) ?_
    have r1 : rowByte [V.int IntKind.u8 x.toNat] = x := by simp [rowByte]
    have r2 : rowByte [V.int IntKind.u8 y.toNat] = y := by simp [rowByte]
    simp [go_sem, e1, e2, r1]
    refine wneed_i (byteRows_isBytes [y]) ?_
    simp [go_sem, r2]
    exact wret_0 (argS_no rfl) ⟨by rw [← hx, ← hy]; simp, rfl⟩
  · rw [h]
    simp [go_sem]
    exact wret_0 (argS_no rfl) ⟨rfl, rfl⟩
end Go.Proofs.Ytkmechkafhblpaa.R
namespace Go.Proofs.Ytkmechkafhblpaa.R
open Go Go.Vx
set_option maxRecDepth 100000

/-- Whether values may stand in columns. -/
def mayRowF : List GCol → List GValue → Int
  | c :: cs, v :: vs => if mayF v = false then 9 else if v.kind = 0 ∧ c.null = false then 16 else if v.kind ≠ 0 ∧ v.kind ≠ c.kind then 15 else mayRowF cs vs
  | _, _ => 0
def mayT (cols : List GCol) (row : List GValue) : Int := if row.length ≠ cols.length then 9 else mayRowF cols row

theorem MayRow_w (t : GTable) (row : List GValue) (hr : row.length ≤ maxLen) : Pure Try.prog 13 [.agg t.row, .sl .ro (row.map GValue.row)] (.int .i64 (mayT t.cols row)) := by
  obtain ⟨name, cols, key, place, region, zone⟩ := t
  refine VCalls.introV 0 Try.func13 Try.ntmps13 Try.results13 rfl rfl (Nat.le_of_ble_eq_true rfl) fun c hc hb => ?_
  refine wVW_code ?_
  have ret : ∀ (r : Int) (σ : St), r = mayT cols row → wret (some (.int .i64 r)) 0 (fun r s => r = .int .i64 (mayT cols row) ∧ s = []) σ := fun r σ h => by subst h; exact wret_0 (argS_no rfl) ⟨rfl, rfl⟩
  simp [go_sem]
  refine wcond_i (fun h => ?_) (fun h => ?_)
  · have h : row.length ≠ cols.length := by simp at h; omega
    simp [go_sem]
    exact ret _ _ (by rw [mayT, if_pos h])
  have h : row.length = cols.length := by simp at h; omega
  rw [mayT, if_neg (by omega)] at ret ⊢
  simp [go_sem]
  refine wVW_while (S := Nat) [2, 13, 14, 15] (fun i => [.ptr 0 0, .sl .ro (row.map GValue.row), .int .i64 row.length, .int .i64 i]) (fun _ => [.box (GTable.row ⟨name, cols, key, place, region, zone⟩)]) (fun i => row.length - i) (fun i => i ≤ row.length ∧ mayRowF (cols.drop i) (row.drop i) = mayRowF cols row) hc hb 0 ⟨Nat.zero_le _, rfl⟩ ?_ ?_
  · exact at_n 1 (by simp [go_sem]) rfl rfl (Nat.zero_le _) (args_lt_eq (by simp [go_sem]) rfl)
  rintro i ⟨hi, hinv⟩
  refine wVW_code ?_
  simp [go_sem]
  refine wcond_i (fun q => ?_) (fun q => ?_)
  · have q : i < row.length := by simpa using q
    have q2 : i < cols.length := by omega
    have ei := i64_inc q (by unfold maxLen at hr; omega)
    rw [List.drop_eq_getElem_cons q, List.drop_eq_getElem_cons q2] at hinv
    obtain ⟨⟨k, n, s⟩, hv⟩ : ∃ v, row[i] = v := ⟨_, rfl⟩
    obtain ⟨⟨cn, ck, cb⟩, hcol⟩ : ∃ v, cols[i] = v := ⟨_, rfl⟩
    rw [hv, hcol, mayRowF] at hinv
    simp only at hinv
    simp [go_sem, q, hv]
    refine wVC_pure (May_w ⟨k, n, s⟩) Try.callB26 (args_no rfl) rfl ?_
    simp [go_sem]
    refine wcond_i (fun h1 => ?_) (fun h1 => ?_)
    · have h1 : mayF ⟨k, n, s⟩ = false := by simpa using h1
      rw [if_pos h1] at hinv
      simp [go_sem]
      exact ret _ _ hinv
    have h1 : ¬ mayF ⟨k, n, s⟩ = false := by simpa using h1
    rw [if_neg h1] at hinv
    simp [go_sem]
    refine wgrd_i (fun h2 => ?_) (fun h2 => ?_)
    · have h2' : k = 0 := by simpa using h2
      simp [go_sem, h2, q2, hcol]
      refine wcond_i (fun h3 => ?_) (fun h3 => ?_)
      · have h3 : cb = false := by simpa using h3
        rw [if_pos ⟨h2', h3⟩] at hinv
        simp [go_sem]
        exact ret _ _ hinv
      have h3 : ¬ cb = false := by simpa using h3
      rw [if_neg (fun w => h3 w.2), if_neg (fun w => w.1 h2')] at hinv
      simp [go_sem]
      refine wdraw [] 2 rfl (by kernel_rfl) (by kernel_rfl) ?_
      simp [go_sem, h2', q2, hcol, ei]
      exact next_i (i + 1) ⟨by omega, ⟨q, hinv⟩, at_n 1 (by simp [go_sem]) rfl rfl (Nat.zero_le _) (args_lt_eq (by simp [go_sem, ei]) rfl)⟩
    · have h2' : ¬ k = 0 := by simpa using h2
      rw [if_neg (fun w => h2' w.1)] at hinv
      simp [go_sem, h2]
      refine wdraw [] 2 rfl (by kernel_rfl) (by kernel_rfl) ?_
      have h2n : (k != 0) = true := by simpa using h2'
      simp [go_sem, h2n, q2, hcol]
      refine wcond_i (fun h4 => ?_) (fun h4 => ?_)
      · have h4 : ¬ k = ck := by simpa using h4
        rw [if_pos ⟨h2', h4⟩] at hinv
        simp [go_sem]
        exact ret _ _ hinv
      have h4 : k = ck := by simpa using h4
      rw [if_neg (fun w => w.2 h4)] at hinv
      simp [go_sem, ei]
      exact next_i (i + 1) ⟨by omega, ⟨q, hinv⟩, at_n 1 (by simp [go_sem]) rfl rfl (Nat.zero_le _) (args_lt_eq (by simp [go_sem, ei]) rfl)⟩
  · have q : i = row.length := by have : ¬ i < row.length := by simpa using q
                                  omega
    subst q
    rw [List.drop_length, h, List.drop_length] at hinv
    simp [go_sem]
    exact ret _ _ hinv
end Go.Proofs.Ytkmechkafhblpaa.R
namespace Go.Proofs.Ytkmechkafhblpaa.R
open Go Go.Vx
set_option maxRecDepth 100000

/-- A row's range, its key, or why not. -/
def keyR (n j : Nat) (t : GTable) (row : List GValue) (rg : Int → Int × Int) : Int × List UInt8 × Int :=
  if mayT t.cols row ≠ 0 then (0, [], mayT t.cols row)
  else
    let r := rg (if t.place = 0 then min (max (row.headD v0).n (-1)) 4 else 0)
    if r.2 ≠ 0 then (0, [], r.2) else (r.1, boundF n j (row.getD t.key.toNat v0), 0)
def keyV (r : Int × List UInt8 × Int) : V := .tup [.int .i64 r.1, .str r.2.1, .int .i64 r.2.2]

theorem key_ret {r : Int × List UInt8 × Int} {a e : Int} {s : List UInt8} {σ : St} (h : r = (a, s, e)) : wret (some (.tup [.int .i64 a, .str s, .int .i64 e])) 0 (fun v s => v = keyV r ∧ s = []) σ := by
  subst h
  exact wret_0 (argS_no rfl) ⟨rfl, rfl⟩

theorem mayT_len {cols : List GCol} {row : List GValue} (h : mayT cols row = 0) : row.length = cols.length := by
  unfold mayT at h
  split at h
  · cases h
  · rename_i h2; omega

theorem KeyRow_w (regs : List (List V)) (ts : List GTable) (j : Nat) (hj : j < ts.length) (t : GTable) (ht : ts[j] = t) (row : List GValue) (hr : row.length ≤ maxLen) (hL : mayT t.cols row = 0 → LightR row) (hn : ts.length ≤ maxB) (hk : 0 ≤ t.key ∧ t.key < t.cols.length) (rg : Int → Int × Int)
    (hrg : ∀ r, -1 ≤ r → r ≤ 4 → (t.place ≠ 0 → r = 0) → Pure Try.prog 20 [.agg [.sl .ro regs, .sl .ro (ts.map GTable.row)], .int .i64 j, .int .i64 r] (.tup [.int .i64 (rg r).1, .int .i64 (rg r).2])) :
    Pure Try.prog 7 [.agg [.sl .ro regs, .sl .ro (ts.map GTable.row)], .int .i64 j, .sl .ro (row.map GValue.row)] (keyV (keyR ts.length j t row rg)) := by
  have hmay := MayRow_w t row hr
  have hbound : ∀ v : GValue, v.ok → v.s.length ≤ 500 → _ := fun v h1 h2 => Bound_w regs (ts.map GTable.row) j v (by simpa using hn) h1 h2
  simp only [List.length_map] at hbound
  generalize hres : keyR ts.length j t row rg = res
  unfold keyR at hres
  obtain ⟨m, hm⟩ : ∃ m, mayT t.cols row = m := ⟨_, rfl⟩
  have hlen : m = 0 → row.length = t.cols.length := fun h => mayT_len (hm.trans h)
  rw [hm] at hmay hL hres
  obtain ⟨name, cols, key, place, region, zone⟩ := t
  simp only at hk hlen hres
  obtain ⟨q, rfl⟩ : ∃ q : Nat, key = q := ⟨key.toNat, by omega⟩
  refine VCalls.introV 0 Try.func7 Try.ntmps7 Try.results7 rfl rfl (Nat.le_of_ble_eq_true rfl) fun c hc hb => ?_
  refine wVW_code ?_
  simp [go_sem]
  refine wVC_pure (is_w regs (ts.map GTable.row) j) Try.callB19 (args_no rfl) rfl ?_
  simp [go_sem, hj, ht]
  refine wVC_pure hmay Try.callB13 (args_eq (by simp [go_sem]) rfl) rfl ?_
  simp [go_sem]
  refine wcond_i (fun h => ?_) (fun h => ?_)
  · have h : m ≠ 0 := by simpa using h
    simp [go_sem]
    exact key_ret (by rw [← hres, if_pos h])
  have h : m = 0 := by simpa using h
  have hl := hlen h
  have hq : q < row.length := by omega
  have h0 : 0 < row.length := by omega
  have hLr := hL h
  obtain ⟨v, hv⟩ : ∃ v, row[q] = v := ⟨_, rfl⟩
  obtain ⟨v1, hv1⟩ : ∃ v, row[0] = v := ⟨_, rfl⟩
  have hvm : v ∈ row := hv ▸ List.getElem_mem hq
  have e1 : row.headD v0 = v1 := by
    rw [← hv1]
    cases row with
    | nil => simp at h0
    | cons a l => rfl
  have e2 : row.getD q v0 = v := by rw [List.getD_eq_getElem?_getD, List.getElem?_eq_getElem hq, hv]; rfl
  rw [if_neg (by omega), e1, Int.toNat_natCast, e2] at hres
  have hb2 := hbound v (hLr.ok v hvm) (hLr.s v hvm)
  have fin : ∀ (x : Int) (σ : St), (if place = 0 then min (max v1.n (-1)) 4 else 0) = x → ((rg x).2 ≠ 0 → res = (0, [], (rg x).2)) ∧ ((rg x).2 = 0 → res = ((rg x).1, boundF ts.length j v, 0)) := fun x σ hx => by
    rw [hx] at hres
    exact ⟨fun w => by rw [← hres]; exact if_pos w, fun w => by rw [← hres]; exact if_neg (fun q => q w)⟩
  simp [go_sem]
  refine wcond_i (fun hp => ?_) (fun hp => ?_)
  · have hp : place = 0 := by simpa using hp
    simp [go_sem, h0, hv1]
    obtain ⟨x, hx⟩ : ∃ x, (if 4 < if v1.n < -1 then -1 else v1.n then 4 else if v1.n < -1 then -1 else v1.n) = x := ⟨_, rfl⟩
    have hx2 : x = min (max v1.n (-1)) 4 := by rw [← hx]; split <;> split <;> omega
    rw [hx]
    have fx1 := fin x [] (by rw [if_pos hp, hx2])
    have hr1 := hrg x (by omega) (by omega) (fun w => absurd hp w)
    revert fx1 hr1
    generalize rg x = o
    obtain ⟨oa, oe⟩ := o
    intro fx1 hr1
    simp only at fx1 hr1
    refine wVC_pure hr1 Try.callB20 (args_no rfl) rfl ?_
    simp [go_sem]
    refine wcond_i (fun w => ?_) (fun w => ?_)
    · have w : oe ≠ 0 := by simpa using w
      simp [go_sem]
      exact key_ret (fx1.1 w)
    have w : oe = 0 := by simpa using w
    simp [go_sem]
    refine wdraw [(8, 0)] 2 rfl (by kernel_rfl) (by kernel_rfl) ?_
    simp [go_sem, hq, hv]
    refine wVD_pure hb2 Try.callB11 (fun _ => args_no rfl) rfl ?_
    simp [go_sem]
    exact key_ret (fx1.2 w)
  · have hp : ¬ place = 0 := by simpa using hp
    have fx1 := fin 0 [] (by rw [if_neg hp])
    have hr1 := hrg 0 (by omega) (by omega) (fun _ => rfl)
    revert fx1 hr1
    generalize rg 0 = o
    obtain ⟨oa, oe⟩ := o
    intro fx1 hr1
    simp only at fx1 hr1
    simp [go_sem]
    refine wVC_pure hr1 Try.callB20 (args_no rfl) rfl ?_
    simp [go_sem]
    refine wcond_i (fun w => ?_) (fun w => ?_)
    · have w : oe ≠ 0 := by simpa using w
      simp [go_sem]
      exact key_ret (fx1.1 w)
    have w : oe = 0 := by simpa using w
    simp [go_sem]
    refine wdraw [(8, 0)] 2 rfl (by kernel_rfl) (by kernel_rfl) ?_
    simp [go_sem, hq, hv]
    refine wVD_pure hb2 Try.callB11 (fun _ => args_no rfl) rfl ?_
    simp [go_sem]
    exact key_ret (fx1.2 w)
end Go.Proofs.Ytkmechkafhblpaa.R
