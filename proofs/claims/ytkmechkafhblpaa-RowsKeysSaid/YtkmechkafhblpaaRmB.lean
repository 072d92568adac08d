/-
  Contracts of functions that the claimed statement reaches, each proved over trees (the library Vx); used by the theorem at the end of the claim.
  Conditions: as each theorem states them.
-/
import Derived.Test.YtkmechkafhblpaaRmA
import Derived.Test.YtkmechkafhblpaaVxZ
import Derived.Test.YtkmechkafhblpaaVxT
namespace Go.Proofs.Ytkmechkafhblpaa.R
open Go Go.Vx
set_option maxRecDepth 100000

/-- Whether a schema has a table of that number. -/
theorem is_w (regs tabs : List (List V)) (t : Int) : Pure Try.prog 19 [.agg [.sl .ro regs, .sl .ro tabs], .int .i64 t] (.bool (decide (0 ≤ t) && decide (t < tabs.length))) := by
  refine VCalls.intro 0 Try.func19 Try.ntmps19 Try.results19 rfl rfl (Nat.le_of_ble_eq_true rfl) fun c hc hb => wcode_of ?_
  simp [go_sem]
  repeat' (first | (refine wgrd_i (fun q => ?_) (fun q => ?_) <;> simp [go_sem, q]) | (refine wcond_i (fun q => ?_) (fun q => ?_) <;> simp [go_sem, q]))
  all_goals exact wret_0 (argS_no rfl) ⟨by simp_all, rfl⟩
theorem refIs_w (regs tabs : List (List V)) (t : Int) : Pure Try.prog 21 [.agg [.sl .ro regs, .sl .ro tabs], .int .i64 t] (.bool (decide (0 ≤ t) && decide (t < tabs.length))) := by
  refine VCalls.intro 0 Try.func21 Try.ntmps21 Try.results21 rfl rfl (Nat.le_of_ble_eq_true rfl) fun c hc hb => wcode_of ?_
  simp [go_sem]
  repeat' (first | (refine wgrd_i (fun q => ?_) (fun q => ?_) <;> simp [go_sem, q]) | (refine wcond_i (fun q => ?_) (fun q => ?_) <;> simp [go_sem, q]))
  all_goals exact wret_0 (argS_no rfl) ⟨by simp_all, rfl⟩
end Go.Proofs.Ytkmechkafhblpaa.R
namespace Go.Proofs.Ytkmechkafhblpaa.R
open Go Go.Vx
set_option maxRecDepth 100000

/-- LightRow: where it tells yes, the row is not too great. -/
theorem LightRow_w (row : List GValue) (hok : ∀ v ∈ row, v.ok) (hml : row.length ≤ maxLen) : VCalls Try.prog 6 [.sl .ro (row.map GValue.row)] [] fun r s => IfTrue (LightR row) r ∧ s = [] := by
  refine VCalls.introV 0 Try.func6 Try.ntmps6 Try.results6 rfl rfl (Nat.le_of_ble_eq_true rfl) fun c hc hb => ?_
  refine wVW_code ?_
  simp [go_sem]
  refine wcond_i (fun h => ?_) (fun h => ?_)
  · simp [go_sem]
    exact wret_0 (argS_no rfl) ⟨ift_no, rfl⟩
  have h : row.length ≤ 20 := by have := of_decide_eq_false h; omega
  simp [go_sem]
  refine wVW_while (S := Nat) [0, 3] (fun i => [.sl .ro (row.map GValue.row), .int .i64 i]) (fun _ => []) (fun i => row.length - i) (fun i => i ≤ row.length ∧ ∀ v ∈ row.take i, v.s.length ≤ 500) hc hb 0 ⟨Nat.zero_le _, by simp⟩ ?_ ?_
  · exact at_0 rfl (args_eq (by simp [go_sem]) rfl)
  rintro i ⟨hi, ha⟩
  refine wVW_code ?_
  simp [go_sem]
  refine wcond_i (fun q => ?_) (fun q => ?_)
  · have q : i < row.length := by simpa using q
    obtain ⟨v, hv⟩ : ∃ v, row[i] = v := ⟨_, rfl⟩
    have ei := i64_inc q (by omega)
    simp [go_sem, q, hv]
    refine wcond_i (fun w => ?_) (fun w => ?_)
    · simp [go_sem]
      exact wret_0 (argS_no rfl) ⟨ift_no, rfl⟩
    · have w : v.s.length ≤ 500 := by have := of_decide_eq_false w; omega
      have ha2 : ∀ x ∈ row.take (i + 1), x.s.length ≤ 500 := fun x hx => by
        rw [List.take_succ_eq_append_getElem q, List.mem_append] at hx
        rcases hx with hx | hx
        · exact ha x hx
        · simp at hx; rw [hx, hv]; exact w
      simp [go_sem, ei]
      exact next_i (i + 1) ⟨by omega, ⟨q, ha2⟩, at_0 rfl (args_eq (by simp [go_sem, ei]) rfl)⟩
  · have q : i = row.length := by have : ¬ i < row.length := by simpa using q
                                  omega
    have ha3 : ∀ v ∈ row, v.s.length ≤ 500 := fun v hv => ha v (by rw [q, List.take_length]; exact hv)
    simp [go_sem]
    exact wret_0 (argS_no rfl) ⟨ift_yes ⟨h, ha3, hok⟩, rfl⟩
end Go.Proofs.Ytkmechkafhblpaa.R
namespace Go.Proofs.Ytkmechkafhblpaa.R
open Go Go.Vx
set_option maxRecDepth 100000

theorem takeF_le (b : List UInt8) : (takeF b).e = 0 → (takeF b).n ≤ b.length := by
  cases b with
  | nil => simp [takeF]
  | cons c rest =>
    have h1 := takeG_le rest 0 0
    have h2 := takeText_le rest
    rw [takeF]
    unfold takeC takeBoolF
    revert h1 h2
    generalize takeG rest 0 0 = r
    generalize takeTextF rest = t
    obtain ⟨rn, rk, re⟩ := r
    obtain ⟨tx, tk, te⟩ := t
    intro h1 h2
    simp only at h1 h2
    (repeat' split) <;> intro h <;> simp at h ⊢ <;> (try omega)
    · rename_i q1 q2 q3; simp only [List.length_cons] at q2; omega
    · rename_i q; simp at q; have := h1 q; omega

/-- So many values, and nothing behind them. -/
def rowG : Nat → List UInt8 → Option (List GValue)
  | 0, b => if b = [] then some [] else none
  | n + 1, b => if (takeF b).e = 0 then (rowG n (b.drop (takeF b).n)).map ((takeF b).v :: ·) else none
def rowR (o : Option (List GValue)) : List GValue × Int := match o with
  | some l => (l, 0)
  | none => ([], 9)
def rowC (nc : Nat) (data : List UInt8) : List GValue × Int :=
  if (takeG data 0 0).2.2 = 0 ∧ (takeG data 0 0).1 = nc then rowR (rowG nc (data.drop (takeG data 0 0).2.1)) else ([], 9)
def rowF (ts : List GTable) (table : Int) (data : List UInt8) : List GValue × Int :=
  if h : 0 ≤ table ∧ table < ts.length then rowC (ts[table.toNat]'(by omega)).cols.length data else ([], 1)
theorem byteRows_cut (b : List UInt8) (k : Nat) : List.drop k (List.take b.length (byteRows b)) = byteRows (b.drop k) := by
  rw [List.take_of_length_le (by rw [byteRows_len]; exact Nat.le_refl _)]
  simp [byteRows, List.map_drop]
def rowV (r : List GValue × Int) : V := .tup [.sl .ro (r.1.map GValue.row), .int .i64 r.2]

theorem row_ret {r : List GValue × Int} {l : List GValue} {g : Tag} {e : Int} {σ : St} (h : r = (l, e)) : wret (some (.tup [.sl g (l.map GValue.row), .int .i64 e])) 0 (fun v s => v = rowV r ∧ s = []) σ := by
  subst h
  exact wret_0 (r := rowV (l, e)) (argS_tup (vs' := [.sl .ro (l.map GValue.row), .int .i64 e]) ⟨argA_ro, argA_no rfl, trivial⟩) ⟨rfl, rfl⟩
theorem row_ret0 {r : List GValue × Int} {g : Tag} {e : Int} {σ : St} (h : r = ([], e)) : wret (some (.tup [.sl g [], .int .i64 e])) 0 (fun v s => v = rowV r ∧ s = []) σ := row_ret (l := []) h

end Go.Proofs.Ytkmechkafhblpaa.R
namespace Go.Proofs.Ytkmechkafhblpaa.R
open Go Go.Vx
set_option maxRecDepth 100000

def rowsV (a : List (List GValue)) : V := .sl .ro (a.map fun l => [.sl .ro (l.map GValue.row)])

end Go.Proofs.Ytkmechkafhblpaa.R
namespace Go.Proofs.Ytkmechkafhblpaa.R
open Go Go.Vx
set_option maxRecDepth 100000

/-- The last k bytes of a number, the greatest first. -/
def be (v : Nat) : Nat → List UInt8
  | 0 => []
  | k + 1 => UInt8.ofNat (v / 256 ^ k) :: be v k

theorem be_len (v : Nat) : ∀ k, (be v k).length = k
  | 0 => rfl
  | k + 1 => by simp [be, be_len v k]

theorem bl_cons (a b : UInt8) (l m : List UInt8) : Op.bytesLess (a :: l) (b :: m) = if a.toNat < b.toNat then true else if b.toNat < a.toNat then false else Op.bytesLess l m := by
  rw [Op.bytesLess]
  simp only [UInt8.lt_iff_toNat_lt]
  by_cases h1 : a.toNat < b.toNat
  · simp [h1]
  · by_cases h2 : b.toNat < a.toNat
    · have : a ≠ b := fun h => by subst h; omega
      simp [h1, h2, this]
    · have : a = b := UInt8.toNat_inj.1 (by omega)
      simp [this]

theorem bl_app : ∀ (p a b : List UInt8), Op.bytesLess (p ++ a) (p ++ b) = Op.bytesLess a b
  | [], a, b => rfl
  | x :: p, a, b => by
    rw [List.cons_append, List.cons_append, bl_cons, if_neg (Nat.lt_irrefl _), if_neg (Nat.lt_irrefl _), bl_app p a b]

theorem be_less (u w : Nat) : ∀ k, Op.bytesLess (be u k) (be w k) = decide (u % 256 ^ k < w % 256 ^ k)
  | 0 => by simp [be, Op.bytesLess, Nat.mod_one]
  | k + 1 => by
    have hk : 0 < 256 ^ k := Nat.pow_pos (by decide)
    rw [be, be, bl_cons, be_less u w k, Nat.pow_succ, Nat.mod_mul, Nat.mod_mul, UInt8.toNat_ofNat', UInt8.toNat_ofNat']
    have h1 := Nat.mod_lt u hk
    have h2 := Nat.mod_lt w hk
    generalize u % 256 ^ k = x at *
    generalize w % 256 ^ k = y at *
    have e : ∀ z : Nat, z % 2 ^ 8 = z % 256 := fun z => rfl
    rw [e, e]
    generalize u / 256 ^ k % 256 = a
    generalize w / 256 ^ k % 256 = b
    generalize 256 ^ k = m at *
    by_cases ha : a < b
    · have : (a + 1) * m ≤ b * m := Nat.mul_le_mul_right m ha
      rw [Nat.add_mul] at this
      rw [if_pos ha, decide_eq_true]
      rw [Nat.mul_comm m a, Nat.mul_comm m b]
      omega
    · rw [if_neg ha]
      by_cases hb : b < a
      · have : (b + 1) * m ≤ a * m := Nat.mul_le_mul_right m hb
        rw [Nat.add_mul] at this
        rw [if_pos hb, eq_comm, decide_eq_false]
        rw [Nat.mul_comm m a, Nat.mul_comm m b]
        omega
      · have : a = b := by omega
        subst this
        rw [if_neg hb]
        congr 1
        exact propext ⟨fun h => by omega, fun h => by omega⟩

/-- A text in a key: the byte 0 as 0, 255; 0, 1 ends it. -/
def esc : List UInt8 → List UInt8
  | [] => []
  | c :: s => if c = 0 then 0 :: 255 :: esc s else c :: esc s
theorem esc_len : ∀ s, (esc s).length ≤ 2 * s.length
  | [] => by simp [esc]
  | c :: s => by
    have := esc_len s
    unfold esc
    split <;> simp <;> omega
theorem esc_append : ∀ a b, esc (a ++ b) = esc a ++ esc b
  | [], b => rfl
  | c :: a, b => by
    have := esc_append a b
    rw [List.cons_append, esc, esc]
    split <;> simp [this]
theorem esc_less : ∀ a b : List UInt8, Op.bytesLess (esc a ++ [0, 1]) (esc b ++ [0, 1]) = Op.bytesLess a b
  | [], [] => by decide
  | [], d :: b => by
    rw [esc, esc]
    by_cases h : d = 0
    · subst h
      rw [if_pos rfl]
      simp [bl_cons, Op.bytesLess]
    · rw [if_neg h]
      have hd : 0 < d.toNat := by
        rcases Nat.eq_zero_or_pos d.toNat with q | q
        · exact absurd (UInt8.toNat_inj.1 (by simpa using q)) h
        · exact q
      simp [bl_cons, Op.bytesLess, hd]
  | c :: a, [] => by
    rw [esc, esc]
    by_cases h : c = 0
    · subst h
      rw [if_pos rfl]
      simp [bl_cons, Op.bytesLess]
    · rw [if_neg h]
      have hd : 0 < c.toNat := by
        rcases Nat.eq_zero_or_pos c.toNat with q | q
        · exact absurd (UInt8.toNat_inj.1 (by simpa using q)) h
        · exact q
      simp [bl_cons, Op.bytesLess, hd]
  | c :: a, d :: b => by
    have ih := esc_less a b
    rw [esc, esc, bl_cons]
    by_cases hc : c = 0
    · subst hc
      by_cases hd : d = 0
      · subst hd
        simp [bl_cons, ih]
      · have hd2 : 0 < d.toNat := by
          rcases Nat.eq_zero_or_pos d.toNat with q | q
          · exact absurd (UInt8.toNat_inj.1 (by simpa using q)) hd
          · exact q
        simp [bl_cons, hd, hd2]
    · have hc2 : 0 < c.toNat := by
        rcases Nat.eq_zero_or_pos c.toNat with q | q
        · exact absurd (UInt8.toNat_inj.1 (by simpa using q)) hc
        · exact q
      by_cases hd : d = 0
      · subst hd
        simp [bl_cons, hc, hc2]
      · simp [bl_cons, hc, hd, ih]

/-- A value's key. -/
def keyF (v : GValue) : List UInt8 :=
  if mayF v = true then
    UInt8.ofNat v.kind.toNat :: (if v.kind = 1 then [UInt8.ofNat v.n.toNat] else if v.kind = 2 then be (v.n + 9223372036854775808).toNat 8 else if v.kind = 3 then esc v.s ++ [0, 1] else [])
  else []
theorem keyF_len {v : GValue} : (keyF v).length ≤ 2 * v.s.length + 10 := by
  have h := esc_len v.s
  have h2 := be_len (v.n + 9223372036854775808).toNat 8
  unfold keyF
  (repeat' split) <;> simp <;> omega
end Go.Proofs.Ytkmechkafhblpaa.R
namespace Go.Proofs.Ytkmechkafhblpaa.R
open Go Go.Vx

/-- No function bears that name. -/
theorem names_ok : (Try.prog.funcs.all fun fn => !(fn.name == "runtime.NumGoroutine")) = true := by kernel_rfl
theorem orders_ok : Try.prog.follows .mixedOrders = true := by kernel_rfl
/-- What slices.Clone makes is a list of its own. -/
def marks (f : Nat) : List Nat := if f = 53 then [7] else []

theorem begun_w : Pure Try.prog 4 [] (.bool true) := pure_run names_ok orders_ok marks 10000 (by kernel_rfl)
end Go.Proofs.Ytkmechkafhblpaa.R
namespace Go.Proofs.Ytkmechkafhblpaa.R
open Go Go.Vx
set_option maxRecDepth 100000

def zoneS : GZone := ⟨[1], [], [0, 1], 0, 0, 0⟩
def tabT : GTable := ⟨[84], [⟨[82], 2, false⟩, ⟨[75], 2, false⟩, ⟨[86], 3, true⟩, ⟨[78], 2, true⟩], 1, 0, 0, zoneS⟩
def tabG : GTable := ⟨[71], [⟨[75], 3, false⟩, ⟨[78], 2, false⟩, ⟨[66], 1, true⟩], 0, 1, 0, zoneS⟩
def tabH : GTable := ⟨[72], [⟨[66], 1, false⟩, ⟨[78], 2, true⟩], 0, 2, 1, zoneS⟩
def tabsS : List GTable := [tabT, tabG, tabH]
def regsS : List (List V) := [[.int .i64 0], [.int .i64 0], [.int .i64 1], [.int .i64 1]]
def schS : V := .agg [.sl .full regsS, .sl .full (tabsS.map GTable.row)]
theorem Schema_w : Pure Try.prog 15 [] schS := pure_run names_ok orders_ok marks 10000 (by kernel_rfl)
theorem schS_arg {ρ : Nat → Nat} : argS ρ (.agg [.sl .ro regsS, .sl .ro (tabsS.map GTable.row)]) schS := argS_agg ⟨argC_ro, argC_ro, trivial⟩

theorem rowG_len : ∀ (n : Nat) (b : List UInt8) (l : List GValue), rowG n b = some l → l.length = n
  | 0, b, l, h => by
    unfold rowG at h
    split at h
    · cases h; rfl
    · cases h
  | n + 1, b, l, h => by
    unfold rowG at h
    split at h
    · cases hr : rowG n (b.drop (takeF b).n) with
      | none => rw [hr] at h; cases h
      | some m =>
        rw [hr] at h
        cases h
        simp [rowG_len n _ m hr]
    · cases h
theorem rowC_len (nc : Nat) (data : List UInt8) : (rowC nc data).1.length ≤ nc := by
  unfold rowC rowR
  split
  · split
    · rename_i h; simp [rowG_len _ _ _ h]
    · simp
  · simp
theorem rowF_len {ts : List GTable} {table : Int} {data : List UInt8} (h : ∀ t ∈ ts, t.cols.length ≤ maxB) : (rowF ts table data).1.length ≤ maxB := by
  unfold rowF
  split
  · exact Nat.le_trans (rowC_len _ _) (h _ (List.getElem_mem _))
  · simp

end Go.Proofs.Ytkmechkafhblpaa.R
