/-
  Contracts of functions that the claimed statement reaches, each proved over trees (the library Vx); used by the theorem at the end of the claim.
  Conditions: as each theorem states them.
-/
import Derived.Test.YtkmechkafhblpaaDat
import Derived.Test.YtkmechkafhblpaaVxU
namespace Go.Proofs.Ytkmechkafhblpaa.R
open Go Go.Vx
set_option maxRecDepth 100000

/-- Bytes, as a slice that is only read. -/
def bys (l : List UInt8) : V := .sl .ro (byteRows l)
theorem byteRows_len (l : List UInt8) : (byteRows l).length = l.length := by simp [byteRows]
theorem byteRows_append (a b : List UInt8) : byteRows (a ++ b) = byteRows a ++ byteRows b := by simp [byteRows]
theorem byteRows_one (b : UInt8) : byteRows [b] = [[.int .u8 b.toNat]] := rfl
theorem byteRows_u (l : List UInt8) : uni 1 (byteRows l) := fun r hr => by
  obtain ⟨x, _, rfl⟩ := List.mem_map.1 hr
  rfl
/-- Bytes that one may append to. -/
def byA (l : List UInt8) : V := .sl (.app 0) (byteRows l)
def stA (l : List UInt8) : St := [.app l.length 1]

/-- What a list of bytes may take. -/
abbrev maxB : Nat := 1000000000

theorem room_w (b : List UInt8) (n : Nat) (hb : b.length ≤ maxB) (hn : n ≤ maxB) : VCalls Try.prog 39 [bys b, .int .i64 n] [] fun r s => r = byA b ∧ s = stA b := by
  refine VCalls.intro 0 Try.func39 Try.ntmps39 Try.results39 rfl rfl (Nat.le_of_ble_eq_true rfl) fun c hc hb => wcode_of ?_
  simp [go_sem, bys, byteRows_len]
  have e1 : IntKind.i64.wrap ((b.length : Int) + n) = ((b.length + n : Nat) : Int) := by rw [i64_id (by unfold maxB at *; omega) (by unfold maxB at *; omega)]; omega
  simp [go_sem, e1]
  refine wneed_i ⟨by omega, by unfold maxB at *; omega⟩ ?_
  simp [go_sem, byteRows_len]
  refine wneed_i ⟨by unfold maxB at *; omega, byteRows_u b⟩ ?_
  simp [go_sem]
  exact wret_n 1 rfl rfl (by omega) (argS_lt rfl) ⟨rfl, rfl⟩

/-- A number, seven bits a byte. -/
def varF (v : Nat) : List UInt8 := if v < 128 then [UInt8.ofNat v] else UInt8.ofNat (v % 128 + 128) :: varF (v / 128)
termination_by v
decreasing_by omega

theorem varF_lt {v : Nat} (h : v < 128) : varF v = [UInt8.ofNat v] := by rw [varF, if_pos h]
theorem varF_ge {v : Nat} (h : ¬ v < 128) : varF v = UInt8.ofNat (v % 128 + 128) :: varF (v / 128) := by rw [varF, if_neg h]
theorem varF_le : ∀ (k v : Nat), v < 128 ^ (k + 1) → (varF v).length ≤ k + 1
  | 0, v, h => by rw [varF_lt (by omega)]; simp
  | k + 1, v, h => by
    by_cases hv : v < 128
    · rw [varF_lt hv]; simp
    · rw [varF_ge hv, List.length_cons]
      have := varF_le k (v / 128) (by rw [Nat.div_lt_iff_lt_mul (by omega)]; rwa [Nat.pow_succ] at h)
      omega
theorem varF_10 {v : Nat} (h : v < 18446744073709551616) : (varF v).length ≤ 10 := varF_le 9 v (by omega)

/-- What goes round in Var: the bytes so far, the number that is left. -/
structure VarS where
  out : List UInt8
  v : Nat

theorem u64_id {n : Int} (h : 0 ≤ n) (h2 : n ≤ 18446744073709551615) : IntKind.u64.wrap n = n := by
  unfold IntKind.wrap
  simp [IntKind.bits, IntKind.signed]
  omega
theorem u8_nat (n : Nat) : IntKind.u8.wrap (n : Int) = ((UInt8.ofNat n).toNat : Int) := by
  unfold IntKind.wrap
  simp [IntKind.bits, IntKind.signed]
theorem u8_more (v : Nat) : IntKind.u8.wrap (IntKind.u8.wrap ((v : Int).tmod 128) + 128) = ((UInt8.ofNat (v % 128 + 128)).toNat : Int) := by
  have e : (v : Int).tmod 128 = ((v % 128 : Nat) : Int) := by rw [Int.tmod_eq_emod_of_nonneg (by omega)]; omega
  have e2 : IntKind.u8.wrap (((v % 128 : Nat) : Int)) = ((v % 128 : Nat) : Int) := by
    rw [u8_nat]
    simp
    omega
  rw [e, e2, show (((v % 128 : Nat) : Int) + 128) = ((v % 128 + 128 : Nat) : Int) by omega, u8_nat]
theorem stA_push (l : List UInt8) (x : UInt8) : stA (l ++ [x]) = [.app (l.length + 1) 1] := by simp [stA]
theorem byA_push (l : List UInt8) (x : UInt8) : byA (l ++ [x]) = .sl (.app 0) (byteRows l ++ [[.int .u8 x.toNat]]) := by simp [byA, byteRows]

end Go.Proofs.Ytkmechkafhblpaa.R
namespace Go.Proofs.Ytkmechkafhblpaa.R
open Go Go.Vx
set_option maxRecDepth 100000

theorem or_all : ((List.range 256).all fun m => bitsV .or .u8 (m : Int) 128 == ((m % 128 + 128 : Nat) : Int)) = true := by decide +kernel
theorem u8_or (v : Nat) : bitsV .or .u8 (IntKind.u8.wrap (v : Int)) 128 = ((UInt8.ofNat (v % 128 + 128)).toNat : Int) := by
  have h := List.all_eq_true.1 or_all (v % 256) (List.mem_range.2 (by omega))
  have e : IntKind.u8.wrap (v : Int) = ((v % 256 : Nat) : Int) := by rw [u8_nat]; simp
  rw [e, beq_iff_eq.1 h]
  simp
  omega

theorem Var_w (b : List UInt8) (v0 : Nat) (hb0 : b.length ≤ maxB) (hv : v0 < 18446744073709551616) : VCalls Try.prog 28 [bys b, .int .u64 v0] [] fun r s => r = byA (b ++ varF v0) ∧ s = stA (b ++ varF v0) := by
  refine VCalls.introV 0 Try.func28 Try.ntmps28 Try.results28 rfl rfl (Nat.le_of_ble_eq_true rfl) fun c hc hb => ?_
  refine wVW_code ?_
  simp [go_sem]
  refine wVC_new0 (room_w b 10 hb0 (by decide)) Try.callB39 (args_no rfl) ?_
  rintro r s ⟨rfl, rfl⟩
  simp [go_sem]
  refine wVW_while (S := VarS) [1, 5] (fun s => [.int .u64 s.v, byA s.out]) (fun s => stA s.out) (fun s => s.v) (fun s => s.v < 18446744073709551616 ∧ s.out ++ varF s.v = b ++ varF v0) hc hb ⟨b, v0⟩ ⟨hv, rfl⟩ ?_ ?_
  · exact at_n 1 rfl rfl rfl (Nat.zero_le _) (args_lt_eq (by simp [go_sem]) rfl)
  rintro ⟨out, v⟩ ⟨hv1, hs⟩
  simp only at hv1 hs
  have hlen : out.length ≤ maxB + 10 := by
    have := congrArg List.length hs
    have h10 := varF_10 hv
    simp only [List.length_append] at this
    omega
  refine wVW_code ?_
  simp [go_sem, byA, stA]
  refine wcond_i (fun h => ?_) (fun h => ?_)
  · have h : ¬ v < 128 := by have := of_decide_eq_true h; omega
    have u1 := u8_or v
    simp [go_sem, u1]
    refine wneed_i ⟨byteRows_len out, by rw [byteRows_len]; unfold maxB at *; omega, uni_one rfl⟩ ?_
    have e5 : (v : Int).fdiv 128 = (v : Int) / 128 := Int.fdiv_eq_ediv_of_nonneg _ (by omega)
    simp [go_sem, e5]
    rw [varF_ge h] at hs
    refine next_i ⟨out ++ [UInt8.ofNat (v % 128 + 128)], v / 128⟩ ⟨by simp only; omega, ⟨by simp only; omega, by simpa using hs⟩, at_n 1 (by simp) rfl rfl (Nat.zero_le _) (args_lt_eq (by simp [go_sem, byteRows]) rfl)⟩
  · have h : v < 128 := by have := of_decide_eq_false h; omega
    simp [go_sem, byteRows_len, u8_nat]
    refine wneed_i ⟨by unfold maxB at *; omega, uni_one rfl⟩ ?_
    simp [go_sem]
    rw [varF_lt h] at hs
    have hs2 : b.length + (varF v0).length = out.length + 1 := by
      have := congrArg List.length hs
      simpa using this.symm
    rw [← hs]
    exact wret_n 1 rfl rfl (by omega) (argS_lt rfl) ⟨by simp [byteRows], by simp [hs2]⟩

theorem Text_w (b t : List UInt8) (hb0 : b.length ≤ maxB) (ht : t.length ≤ maxB) : VCalls Try.prog 41 [bys b, bys t] [] fun r s => r = byA (b ++ varF t.length ++ t) ∧ s = stA (b ++ varF t.length ++ t) := by
  refine VCalls.intro 0 Try.func41 Try.ntmps41 Try.results41 rfl rfl (Nat.le_of_ble_eq_true rfl) fun c hc hb => wcode_of ?_
  have e1 : IntKind.u64.wrap (t.length : Int) = (t.length : Int) := u64_id (by omega) (by unfold maxB at *; omega)
  simp [go_sem, bys, byteRows_len, e1]
  refine wVC_new0 (Var_w b t.length hb0 (by unfold maxB at *; omega)) Try.callB28 (args_no rfl) ?_
  rintro r s ⟨rfl, rfl⟩
  have h10 := varF_10 (v := t.length) (by unfold maxB at *; omega)
  simp [go_sem, byA, stA, byteRows_len]
  refine wneed_i ⟨by unfold maxB at *; omega, byteRows_u t⟩ ?_
  simp [go_sem]
  exact wret_n 1 rfl rfl (by omega) (argS_lt rfl) ⟨by simp [byteRows], by simp [Nat.add_assoc]⟩

/-- A number with its sign last. -/
def zigF (n : Int) : Nat := if 0 ≤ n then (2 * n).toNat else (-2 * n - 1).toNat
theorem zigF_lt {n : Int} (h : i64R n) : zigF n < 18446744073709551616 := by
  unfold zigF; unfold i64R at h
  split <;> omega

theorem shr_i (ek : Nat) (es : Option (List Pk)) (a b : Int) : evBin .shr ek es (.int .i64 a) (.int .u64 b) = .need (0 ≤ b) (.int .i64 (a.fdiv (2 ^ (min b.toNat 64)))) := rfl
theorem xor_0 {x : Int} (h : 0 ≤ x) (h2 : x ≤ 18446744073709551615) : bitsV .xor .u64 x 0 = x := by
  obtain ⟨m, rfl⟩ := Int.eq_ofNat_of_zero_le h
  show IntKind.u64.wrap ((BitVec.ofInt 64 (m : Int) ^^^ BitVec.ofInt 64 0).toNat : Int) = m
  have e : BitVec.ofInt 64 (0 : Int) = 0#64 := rfl
  rw [e, BitVec.xor_zero, BitVec.ofInt_natCast, BitVec.toNat_ofNat, Nat.mod_eq_of_lt (by omega)]
  exact u64_id (by omega) (by omega)
theorem xor_1 {x : Int} (h : 0 ≤ x) (h2 : x ≤ 18446744073709551615) : bitsV .xor .u64 x 18446744073709551615 = 18446744073709551615 - x := by
  obtain ⟨m, rfl⟩ := Int.eq_ofNat_of_zero_le h
  show IntKind.u64.wrap ((BitVec.ofInt 64 (m : Int) ^^^ BitVec.ofInt 64 18446744073709551615).toNat : Int) = _
  have e : BitVec.ofInt 64 (18446744073709551615 : Int) = BitVec.allOnes 64 := by decide +kernel
  rw [e, BitVec.xor_allOnes, BitVec.ofInt_natCast, BitVec.toNat_not, BitVec.toNat_ofNat, Nat.mod_eq_of_lt (by omega)]
  rw [u64_id (by omega) (by omega)]
  omega

theorem Zig_w (n : Int) (hn : i64R n) : Pure Try.prog 40 [.int .i64 n] (.int .u64 (zigF n)) := by
  refine VCalls.intro 0 Try.func40 Try.ntmps40 Try.results40 rfl rfl (Nat.le_of_ble_eq_true rfl) fun c hc hb => wcode_of ?_
  unfold i64R at hn
  rcases Int.lt_or_le n 0 with h | h
  · have e1 : IntKind.u64.wrap n = n + 18446744073709551616 := by rw [IntKind.wrap_u64]; omega
    have e2 : IntKind.u64.wrap ((n + 18446744073709551616) * 2) = 2 * n + 18446744073709551616 := by rw [IntKind.wrap_u64]; omega
    have e3 : n.fdiv 9223372036854775808 = -1 := by rw [Int.fdiv_eq_ediv_of_nonneg _ (by omega)]; omega
    have e4 : IntKind.u64.wrap (-1) = 18446744073709551615 := by decide +kernel
    have e5 : bitsV .xor .u64 (2 * n + 18446744073709551616) 18446744073709551615 = ((zigF n : Nat) : Int) := by
      rw [xor_1 (by omega) (by omega), zigF, if_neg (by omega)]; omega
    simp [go_sem, e1, e2, shr_i, e3, e4, e5]
    exact wret_0 (argS_no rfl) ⟨rfl, rfl⟩
  · have e1 : IntKind.u64.wrap n = n := u64_id h (by omega)
    have e2 : IntKind.u64.wrap (n * 2) = 2 * n := by rw [u64_id (by omega) (by omega)]; omega
    have e3 : n.fdiv 9223372036854775808 = 0 := by rw [Int.fdiv_eq_ediv_of_nonneg _ (by omega)]; omega
    have e4 : IntKind.u64.wrap 0 = 0 := u64_id (by omega) (by omega)
    have e5 : bitsV .xor .u64 (2 * n) 0 = ((zigF n : Nat) : Int) := by
      rw [xor_0 (by omega) (by omega), zigF, if_pos h]; omega
    simp [go_sem, e1, e2, shr_i, e3, e4, e5]
    exact wret_0 (argS_no rfl) ⟨rfl, rfl⟩
end Go.Proofs.Ytkmechkafhblpaa.R
namespace Go.Vx
open Go
/-- A contract that tells less: objects that nobody needs are dropped. -/
theorem VCalls.loose {P : Program} {f : FuncId} {args : List V} {σ : St} {R R' : V → St → Prop} (h : VCalls P f args σ R) (hR : ∀ r s, R r s → VRet σ.length R' r s) : VCalls P f args σ R' := by
  intro w L β vals hm ha
  refine (h w L β vals hm ha).mono ?_
  rintro e w' ⟨v, r, L', σ', β', he, hr, hl, hm', hrd⟩
  obtain ⟨v1, σ1, pick, σ2, r2, hfz, hp, har, hR2⟩ := hR _ _ hr
  obtain ⟨L2, β2, hmem, _, _, hrd2, _⟩ := hfz.ok hm' (xs := [v]) ⟨hrd, trivial⟩
  refine ⟨v, r2, L2, σ2, _, he, hR2, ?_, hmem.pick hp hm.len, argS_rd (hp.bak hmem.len) har hrd2⟩
  rw [hp.len]
  rcases Nat.lt_or_ge pick.length σ.length with hlt | hge
  · have := (List.getElem?_eq_some_iff.1 (hp.id pick.length hlt)).1
    omega
  · exact hge
end Go.Vx
namespace Go.Proofs.Ytkmechkafhblpaa.R
open Go Go.Vx
set_option maxRecDepth 100000

theorem byA_loose {f : FuncId} {args : List V} {l : List UInt8} (h : VCalls Try.prog f args [] fun r s => r = byA l ∧ s = stA l) : Pure Try.prog f args (bys l) := h.loose fun r s q => by
  obtain ⟨rfl, rfl⟩ := q
  have h : wret (some (byA l)) 0 (fun r s => r = bys l ∧ s = []) (stA l) := wret_0 argS_ro ⟨rfl, rfl⟩
  obtain ⟨x, h1, h2⟩ := h
  cases h1
  exact h2

/-- Which values may be. -/
def mayF (v : GValue) : Bool :=
  if v.kind = 0 then decide (v.n = 0) && v.s.isEmpty else if v.kind = 1 then (decide (v.n = 0) || decide (v.n = 1)) && v.s.isEmpty
  else if v.kind = 2 then v.s.isEmpty else if v.kind = 3 then decide (v.n = 0) && decide (v.s.length ≤ 64) else false

theorem May_w (v : GValue) : Pure Try.prog 26 [.agg v.row] (.bool (mayF v)) := by
  obtain ⟨k, n, s⟩ := v
  refine VCalls.intro 0 Try.func26 Try.ntmps26 Try.results26 rfl rfl (Nat.le_of_ble_eq_true rfl) fun c hc hb => wcode_of ?_
  simp [go_sem]
  have yes : ∀ (r b : Bool) (σ : St), r = b → wret (some (.bool r)) 0 (fun r s => r = .bool b ∧ s = []) σ := fun r b σ h => by subst h; exact wret_0 (argS_no rfl) ⟨rfl, rfl⟩
  repeat' (first | (refine wgrd_i (fun q => ?_) (fun q => ?_) <;> simp [go_sem, q]) | (refine wcond_i (fun q => ?_) (fun q => ?_) <;> simp [go_sem, q]) | (refine yes _ _ _ ?_))
  all_goals simp_all [mayF]
  omega
theorem refMay_w (v : GValue) : Pure Try.prog 27 [.agg v.row] (.bool (mayF v)) := by
  obtain ⟨k, n, s⟩ := v
  refine VCalls.intro 0 Try.func27 Try.ntmps27 Try.results27 rfl rfl (Nat.le_of_ble_eq_true rfl) fun c hc hb => wcode_of ?_
  simp [go_sem]
  have yes : ∀ (r b : Bool) (σ : St), r = b → wret (some (.bool r)) 0 (fun r s => r = .bool b ∧ s = []) σ := fun r b σ h => by subst h; exact wret_0 (argS_no rfl) ⟨rfl, rfl⟩
  repeat' (first | (refine wgrd_i (fun q => ?_) (fun q => ?_) <;> simp [go_sem, q]) | (refine wcond_i (fun q => ?_) (fun q => ?_) <;> simp [go_sem, q]) | (refine yes _ _ _ ?_))
  all_goals simp_all [mayF]
  omega

/-- A value, plain. -/
def plainF (v : GValue) : List UInt8 :=
  if mayF v = true then
    UInt8.ofNat v.kind.toNat :: (if v.kind = 1 then [UInt8.ofNat v.n.toNat] else if v.kind = 2 then varF (zigF v.n) else if v.kind = 3 then varF v.s.length ++ v.s else [])
  else []

theorem argS_rows {ρ : Nat → Nat} {g : Tag} {rows rows' : List (List V)} (h : rows' = rows) : argS ρ (.sl .ro rows') (.sl g rows) := by subst h; exact argS_ro
theorem bys_ret {b l : List UInt8} {g : Tag} {rows : List (List V)} {σ : St} (h : byteRows (b ++ l) = rows) : wret (some (.sl g rows)) 0 (fun r s => r = bys (b ++ l) ∧ s = []) σ := by subst h; exact wret_0 argS_ro ⟨rfl, rfl⟩

theorem Plain_w (b : List UInt8) (v : GValue) (hv : v.ok) (hb0 : b.length ≤ maxB - 1) (hs : v.s.length ≤ maxB) : Pure Try.prog 29 [bys b, .agg v.row] (bys (b ++ plainF v)) := by
  refine VCalls.intro 0 Try.func29 Try.ntmps29 Try.results29 rfl rfl (Nat.le_of_ble_eq_true rfl) fun c hc hb => wcode_of ?_
  obtain ⟨k, n, s⟩ := v
  have hn := hv.n
  simp only at hs hn
  simp [go_sem, bys, byteRows_len]
  refine wneed_i ⟨by unfold maxB at *; omega, by simp [uni], byteRows_u b⟩ ?_
  simp [go_sem]
  refine wVC_pure (May_w ⟨k, n, s⟩) Try.callB26 (args_no rfl) rfl ?_
  simp [go_sem]
  refine wcond_i (fun h => ?_) (fun h => ?_)
  · simp [go_sem]
    refine bys_ret ?_
    have h : mayF ⟨k, n, s⟩ = false := by simpa using h
    simp [plainF, h, byteRows]
  have h : mayF ⟨k, n, s⟩ = true := by simpa using h
  have hk : k = 0 ∨ k = 1 ∨ k = 2 ∨ k = 3 := by
    unfold mayF at h
    simp only at h
    by_cases h0 : k = 0
    · exact .inl h0
    · by_cases h1 : k = 1
      · exact .inr (.inl h1)
      · by_cases h2 : k = 2
        · exact .inr (.inr (.inl h2))
        · by_cases h3 : k = 3
          · exact .inr (.inr (.inr h3))
          · simp [h0, h1, h2, h3] at h
  simp [go_sem, byteRows_len]
  refine wneed_i ⟨by unfold maxB at *; omega, uni_one rfl⟩ ?_
  have w0 : IntKind.u8.wrap 0 = 0 := by decide +kernel
  have w1 : IntKind.u8.wrap 1 = 1 := by decide +kernel
  have w2 : IntKind.u8.wrap 2 = 2 := by decide +kernel
  have w3 : IntKind.u8.wrap 3 = 3 := by decide +kernel
  rcases hk with rfl | rfl | rfl | rfl
  · simp [go_sem]
    refine bys_ret ?_
    simp [plainF, h, byteRows, w0]
  · have h1 : n = 0 ∨ n = 1 := by
      unfold mayF at h
      simp at h
      exact h.1
    simp [go_sem]
    refine wneed_i ⟨byteRows_len b, by rw [byteRows_len]; unfold maxB at *; omega, uni_one rfl⟩ ?_
    simp [go_sem]
    refine bys_ret ?_
    rcases h1 with rfl | rfl <;> simp [plainF, h, byteRows, w0, w1]
  · simp [go_sem]
    refine wVC_pure (Zig_w n hn) Try.callB40 (args_no rfl) rfl ?_
    simp [go_sem]
    refine wVC_pure (byA_loose (Var_w (b ++ [2]) (zigF n) (by simp; unfold maxB at *; omega) (zigF_lt hn))) Try.callB28 ⟨argS_rows (by simp [byteRows, w2]), argS_no rfl, trivial⟩ rfl ?_
    simp [go_sem]
    refine bys_ret ?_
    simp [plainF, h]
  · simp [go_sem]
    refine wVC_pure (byA_loose (Text_w (b ++ [3]) s (by simp; unfold maxB at *; omega) hs)) Try.callB41 ⟨argS_rows (by simp [byteRows, w3]), argS_no rfl, trivial⟩ rfl ?_
    simp [go_sem]
    refine bys_ret ?_
    simp [plainF, h]

end Go.Proofs.Ytkmechkafhblpaa.R
namespace Go.Proofs.Ytkmechkafhblpaa.R
open Go Go.Vx
set_option maxRecDepth 100000

/-- A row that is not too great. -/
structure LightR (row : List GValue) : Prop where
  len : row.length ≤ 20
  s : ∀ v ∈ row, v.s.length ≤ 500
  ok : ∀ v ∈ row, v.ok

theorem plainF_len {v : GValue} (hn : i64R v.n) (h : v.s.length ≤ 500) : (plainF v).length ≤ 520 := by
  unfold plainF
  have h1 := varF_10 (zigF_lt hn)
  have h2 := varF_10 (v := v.s.length) (by omega)
  (repeat' split) <;> simp <;> omega
theorem plains_len : ∀ {l : List GValue}, (∀ v ∈ l, v.s.length ≤ 500) → (∀ v ∈ l, v.ok) → (l.flatMap plainF).length ≤ 520 * l.length
  | [], _, _ => by simp
  | v :: l, h, ho => by
    have h1 := plainF_len (ho v (by simp)).n (h v (by simp))
    have h2 := plains_len (l := l) (fun x hx => h x (by simp [hx])) (fun x hx => ho x (by simp [hx]))
    simp only [List.flatMap_cons, List.length_append, List.length_cons]
    omega

/-- A row as a text, as far as its i-th value. -/
def dataI (row : List GValue) (i : Nat) : List UInt8 := varF row.length ++ (row.take i).flatMap plainF
def dataF (row : List GValue) : List UInt8 := dataI row row.length
theorem dataI_len {row : List GValue} (h : LightR row) (i : Nat) : (dataI row i).length ≤ 20000 := by
  have h1 := varF_10 (v := row.length) (by have := h.len; omega)
  have h2 := plains_len (l := row.take i) (fun v hv => h.s v (List.mem_of_mem_take hv)) (fun v hv => h.ok v (List.mem_of_mem_take hv))
  have h3 := h.len
  have h4 : (row.take i).length ≤ row.length := by simp; exact Nat.min_le_right _ _
  unfold dataI
  rw [List.length_append]
  omega
theorem dataI_next {row : List GValue} {i : Nat} (h : i < row.length) : dataI row (i + 1) = dataI row i ++ plainF row[i] := by
  unfold dataI
  rw [List.take_succ_eq_append_getElem h, List.flatMap_append, List.append_assoc]
  simp

theorem bytes_isBytes (l : List UInt8) : isBytes (byteRows l) := byteRows_isBytes l

theorem Data_w (row : List GValue) (h : LightR row) : Pure Try.prog 16 [.sl .ro (row.map GValue.row)] (.str (dataF row)) := by
  refine VCalls.introV 0 Try.func16 Try.ntmps16 Try.results16 rfl rfl (Nat.le_of_ble_eq_true rfl) fun c hc hb => ?_
  refine wVW_code ?_
  have hl := h.len
  have e1 : IntKind.u64.wrap (row.length : Int) = (row.length : Int) := u64_id (by omega) (by omega)
  simp [go_sem, e1]
  refine wVC_pure (byA_loose (Var_w [] row.length (by decide) (by omega))) Try.callB28 ⟨argS_rows rfl, argS_no rfl, trivial⟩ rfl ?_
  simp [go_sem]
  refine wVW_while (S := Nat) [3, 10, 11, 12] (fun i => [bys (dataI row i), .sl .ro (row.map GValue.row), .int .i64 row.length, .int .i64 i]) (fun _ => []) (fun i => row.length - i) (fun i => i ≤ row.length) hc hb 0 (Nat.zero_le _) ?_ ?_
  · exact at_0 rfl (args_eq (by simp [go_sem, dataI]) rfl)
  intro i hi
  refine wVW_code ?_
  simp [go_sem]
  refine wcond_i (fun q => ?_) (fun q => ?_)
  · have q : i < row.length := by simpa using q
    obtain ⟨v, hv⟩ : ∃ v, row[i] = v := ⟨_, rfl⟩
    have hm : v ∈ row := hv ▸ List.getElem_mem q
    simp [go_sem, q, hv]
    have h2 := dataI_len h i
    have h3 := h.s v hm
    refine wVC_pure (Plain_w (dataI row i) v (h.ok v hm) (by unfold maxB; omega) (by unfold maxB; omega)) Try.callB29 (args_no rfl) rfl ?_
    simp [go_sem, i64_inc q (by omega)]
    refine next_i (i + 1) ⟨by omega, q, at_0 rfl (args_eq (by simp [go_sem, dataI_next q, hv]) rfl)⟩
  · have q : i = row.length := by have : ¬ i < row.length := by simpa using q
                                  omega
    subst q
    simp [go_sem, bys]
    refine wneed_i (byteRows_isBytes _) ?_
    simp [go_sem, byteRows_back]
    exact wret_0 (argS_no rfl) ⟨rfl, rfl⟩

end Go.Proofs.Ytkmechkafhblpaa.R
namespace Go.Proofs.Ytkmechkafhblpaa.R
open Go Go.Vx
set_option maxRecDepth 100000

/-- A number read, seven bits a byte: what it is, how many bytes it has, why not. -/
def takeG : List UInt8 → Nat → Nat → Nat × Nat × Int
  | [], _, _ => (0, 0, 2)
  | c :: rest, i, v => if i = 9 ∧ 1 < c.toNat then (0, 0, 5) else if c.toNat < 128 then (if c.toNat = 0 ∧ 0 < i then (0, 0, 9) else (v + c.toNat % 128 * 128 ^ i, i + 1, 0)) else takeG rest (i + 1) (v + c.toNat % 128 * 128 ^ i)
def takeV (r : Nat × Nat × Int) : V := .tup [.int .u64 r.1, .int .i64 r.2.1, .int .i64 r.2.2]

theorem andNot_all : ((List.range 256).all fun m => bitsV .andNot .u8 (m : Int) 128 == ((m % 128 : Nat) : Int)) = true := by decide +kernel
theorem u8_andNot (c : UInt8) : bitsV .andNot .u8 (c.toNat : Int) 128 = ((c.toNat % 128 : Nat) : Int) := by
  have h := List.all_eq_true.1 andNot_all c.toNat (List.mem_range.2 c.toNat_lt)
  exact beq_iff_eq.1 h
theorem u64_or {m n : Nat} (hm : m < 18446744073709551616) (hn : n < 18446744073709551616) (ho : m ||| n < 18446744073709551616) : bitsV .or .u64 (m : Int) (n : Int) = ((m ||| n : Nat) : Int) := by
  show IntKind.u64.wrap ((BitVec.ofInt 64 (m : Int) ||| BitVec.ofInt 64 (n : Int)).toNat : Int) = _
  rw [BitVec.ofInt_natCast, BitVec.ofInt_natCast, BitVec.toNat_or, BitVec.toNat_ofNat, BitVec.toNat_ofNat, Nat.mod_eq_of_lt (by omega), Nat.mod_eq_of_lt (by omega)]
  exact u64_id (by omega) (by omega)
theorem pow_128 (i : Nat) : 128 ^ i = 2 ^ (7 * i) := by rw [Nat.pow_mul]
theorem or_add {v x i : Nat} (hv : v < 128 ^ i) : v ||| (x * 128 ^ i) = v + x * 128 ^ i := by
  rw [pow_128] at *
  have := Nat.shiftLeft_add_eq_or_of_lt hv x
  rw [Nat.shiftLeft_eq] at this
  rw [Nat.or_comm, ← this, Nat.add_comm]
theorem pow_le {i : Nat} (h : i ≤ 8) : 128 ^ i ≤ 72057594037927936 := Nat.pow_le_pow_right (n := 128) (by omega) h
/-- The next number. -/
theorem next_lt {v x i : Nat} (hv : v < 128 ^ i) (hx : x < 128) : v + x * 128 ^ i < 128 ^ (i + 1) := by
  have : (x + 1) * 128 ^ i ≤ 128 * 128 ^ i := Nat.mul_le_mul_right _ (by omega)
  rw [Nat.pow_succ]
  rw [Nat.add_mul] at this
  omega
theorem next_64 {v x i : Nat} (hv : v < 128 ^ i) (hx : x < 128) (h9 : i ≤ 8 ∨ i = 9 ∧ x ≤ 1) : v + x * 128 ^ i < 18446744073709551616 ∧ x * 128 ^ i < 18446744073709551616 := by
  rcases h9 with h | ⟨rfl, h⟩
  · have h1 := next_lt hv hx
    have h2 : 128 ^ (i + 1) ≤ 128 ^ 9 := Nat.pow_le_pow_right (by omega) (by omega)
    omega
  · have : x = 0 ∨ x = 1 := by omega
    rcases this with rfl | rfl <;> omega

theorem byteRows_at {b : List UInt8} {i : Nat} (h : i < (byteRows b).length) : (byteRows b)[i] = [.int .u8 (b[i]'(by rw [byteRows_len] at h; exact h)).toNat] := by simp [byteRows]

end Go.Proofs.Ytkmechkafhblpaa.R
namespace Go.Proofs.Ytkmechkafhblpaa.R
open Go Go.Vx
set_option maxRecDepth 100000

end Go.Proofs.Ytkmechkafhblpaa.R
namespace Go.Proofs.Ytkmechkafhblpaa.R
open Go Go.Vx
set_option maxRecDepth 100000

theorem takeG_le : ∀ (l : List UInt8) (i v : Nat), (takeG l i v).2.2 = 0 → (takeG l i v).2.1 ≤ i + l.length
  | [], i, v, h => by simp [takeG] at h
  | c :: rest, i, v, h => by
    unfold takeG at h ⊢
    split
    · simp_all
    · rename_i h1
      rw [if_neg h1] at h
      split
      · rename_i h2
        rw [if_pos h2] at h
        split
        · rename_i h3
          rw [if_pos h3] at h
          simp at h
        · simp
      · rename_i h2
        rw [if_neg h2] at h
        have := takeG_le rest (i + 1) _ h
        simp only [List.length_cons]
        omega

/-- A text read. -/
def takeTextG (b : List UInt8) (r : Nat × Nat × Int) : List UInt8 × Nat × Int :=
  if r.2.2 ≠ 0 then ([], 0, r.2.2) else if 1048576 < r.1 then ([], 0, 3) else if b.length - r.2.1 < r.1 then ([], 0, 2) else ((b.take (r.2.1 + r.1)).drop r.2.1, r.2.1 + r.1, 0)
def takeTextF (b : List UInt8) : List UInt8 × Nat × Int := takeTextG b (takeG b 0 0)
def takeTV (r : List UInt8 × Nat × Int) : V := .tup [bys r.1, .int .i64 r.2.1, .int .i64 r.2.2]

theorem tt_ret {r : List UInt8 × Nat × Int} {g : Tag} {rows : List (List V)} {n : Nat} {e : Int} {σ : St} (h1 : byteRows r.1 = rows) (h2 : r.2.1 = n) (h3 : r.2.2 = e) :
    wret (some (.tup [.sl g rows, .int .i64 n, .int .i64 e])) 0 (fun v s => v = takeTV r ∧ s = []) σ := by
  subst h1 h2 h3
  have h : argS (ren [] σ.length) (takeTV r) (.tup [.sl g (byteRows r.1), .int .i64 r.2.1, .int .i64 r.2.2]) := argS_tup ⟨argA_ro, argA_no rfl, argA_no rfl, trivial⟩
  exact wret_0 h ⟨rfl, rfl⟩

end Go.Proofs.Ytkmechkafhblpaa.R
namespace Go.Proofs.Ytkmechkafhblpaa.R
open Go Go.Vx
set_option maxRecDepth 100000

/-- A number whose sign stands last, read. -/
def zagF (u : Nat) : Int := if u % 2 = 0 then ((u / 2 : Nat) : Int) else -((u / 2 : Nat) : Int) - 1

/-- A value read: the value, how many bytes it has, why not. -/
structure TakeR where
  v : GValue
  n : Nat
  e : Int
def TakeR.V (r : TakeR) : V := .tup [.agg r.v.row, .int .i64 r.n, .int .i64 r.e]
def v0 : GValue := ⟨0, 0, []⟩

def takeBoolF (b : List UInt8) : TakeR :=
  if b.length < 2 then ⟨v0, 0, 2⟩ else if 1 < (b.getD 1 0).toNat then ⟨v0, 0, 9⟩ else ⟨⟨1, (b.getD 1 0).toNat, []⟩, 2, 0⟩

theorem take_ret {r : TakeR} {k m : Int} {s : List UInt8} {n : Nat} {e : Int} {σ : St} (h : r = ⟨⟨k, m, s⟩, n, e⟩) :
    wret (some (.tup [.agg [.int .i64 k, .int .i64 m, .str s], .int .i64 n, .int .i64 e])) 0 (fun v s => v = r.V ∧ s = []) σ := by
  subst h
  exact wret_0 (argS_no rfl) ⟨rfl, rfl⟩

theorem xorI_0 {x : Int} (h : 0 ≤ x) (h2 : x ≤ 9223372036854775807) : bitsV .xor .i64 x 0 = x := by
  obtain ⟨m, rfl⟩ := Int.eq_ofNat_of_zero_le h
  show IntKind.i64.wrap ((BitVec.ofInt 64 (m : Int) ^^^ BitVec.ofInt 64 0).toNat : Int) = m
  have e : BitVec.ofInt 64 (0 : Int) = 0#64 := rfl
  rw [e, BitVec.xor_zero, BitVec.ofInt_natCast, BitVec.toNat_ofNat, Nat.mod_eq_of_lt (by omega)]
  exact i64_id (by omega) (by omega)
theorem xorI_1 {x : Int} (h : 0 ≤ x) (h2 : x ≤ 9223372036854775807) : bitsV .xor .i64 x (-1) = -x - 1 := by
  obtain ⟨m, rfl⟩ := Int.eq_ofNat_of_zero_le h
  show IntKind.i64.wrap ((BitVec.ofInt 64 (m : Int) ^^^ BitVec.ofInt 64 (-1)).toNat : Int) = _
  have e : BitVec.ofInt 64 (-1 : Int) = BitVec.allOnes 64 := by decide +kernel
  rw [e, BitVec.xor_allOnes, BitVec.ofInt_natCast, BitVec.toNat_not, BitVec.toNat_ofNat, Nat.mod_eq_of_lt (by omega)]
  rw [IntKind.wrap_i64]
  omega
theorem and_1 {m : Nat} (h : m < 18446744073709551616) : bitsV .and .u64 (m : Int) 1 = (m : Int) % 2 := by
  show IntKind.u64.wrap ((BitVec.ofInt 64 (m : Int) &&& BitVec.ofInt 64 1).toNat : Int) = _
  have e : BitVec.ofInt 64 (1 : Int) = 1#64 := rfl
  rw [e, BitVec.ofInt_natCast, BitVec.toNat_and, BitVec.toNat_ofNat, Nat.mod_eq_of_lt (by omega)]
  have e2 : m &&& (1#64).toNat = m % 2 := Nat.and_one_is_mod m
  rw [e2, u64_id (by omega) (by omega)]
  omega

end Go.Proofs.Ytkmechkafhblpaa.R
namespace Go.Proofs.Ytkmechkafhblpaa.R
open Go Go.Vx
set_option maxRecDepth 100000

theorem takeG_lt : ∀ (l : List UInt8) (i v : Nat), v < 128 ^ i → i ≤ 9 → (takeG l i v).1 < 18446744073709551616
  | [], i, v, _, _ => by simp [takeG]
  | c :: rest, i, v, hv, h9 => by
    have hc := c.toNat_lt
    unfold takeG
    split
    · simp
    · rename_i h1
      have h98 : i ≤ 8 ∨ i = 9 ∧ c.toNat % 128 ≤ 1 := by
        by_cases h : i = 9
        · exact .inr ⟨h, by have : ¬ 1 < c.toNat := fun w => h1 ⟨h, w⟩
                            omega⟩
        · exact .inl (by omega)
      have hx : c.toNat % 128 < 128 := Nat.mod_lt _ (by omega)
      have n12 := next_64 hv hx h98
      split
      · split
        · simp
        · exact n12.1
      · rename_i h2
        refine takeG_lt rest (i + 1) _ (next_lt hv hx) ?_
        rcases h98 with h | h
        · omega
        · exfalso
          have : ¬ 1 < c.toNat := fun w => h1 ⟨h.1, w⟩
          omega

def takeC (k : Nat) (tb : TakeR) (r : Nat × Nat × Int) (t : List UInt8 × Nat × Int) : TakeR :=
  if k = 0 then ⟨v0, 1, 0⟩
  else if k = 1 then tb
  else if k = 2 then (if r.2.2 ≠ 0 then ⟨v0, 0, r.2.2⟩ else ⟨⟨2, zagF r.1, []⟩, 1 + r.2.1, 0⟩)
  else if k = 3 then (if t.2.2 ≠ 0 then ⟨v0, 0, t.2.2⟩ else if 64 < t.1.length then ⟨v0, 0, 3⟩ else ⟨⟨3, 0, t.1⟩, 1 + t.2.1, 0⟩)
  else ⟨v0, 0, 9⟩
/-- A value read. -/
def takeF : List UInt8 → TakeR
  | [] => ⟨v0, 0, 2⟩
  | c :: rest => takeC c.toNat (takeBoolF (c :: rest)) (takeG rest 0 0) (takeTextF rest)

theorem takeText_le (b : List UInt8) : (takeTextF b).2.1 ≤ b.length ∧ ((takeTextF b).2.2 = 0 → (takeTextF b).1.length ≤ b.length) := by
  have hle := takeG_le b 0 0
  unfold takeTextF takeTextG
  revert hle
  generalize takeG b 0 0 = r
  obtain ⟨n, k, e⟩ := r
  intro hle
  simp only at hle ⊢
  split
  · simp
  · rename_i h
    have h : e = 0 := Decidable.not_not.1 h
    have hk := hle h
    split
    · simp
    · split
      · simp
      · refine ⟨?_, fun _ => ?_⟩
        · simp only; omega
        · simp; omega

end Go.Proofs.Ytkmechkafhblpaa.R
namespace Go.Proofs.Ytkmechkafhblpaa.R
open Go Go.Vx
set_option maxRecDepth 100000

end Go.Proofs.Ytkmechkafhblpaa.R
