/-
  Running code over trees: what a closed run comes to, and that the contracts say the same.
  No condition: a library text; nothing of the program is named.
-/
import Derived.Test.YtkmechkafhblpaaVxU
namespace Go.Vx
open Go

/-- What is needed of an operation follows from a test. -/
def NeedOk (b : Bool) : R → Prop
  | .need p _ => b = true → p
  | .needst p _ _ => b = true → p
  | _ => True

def uniB (s : Nat) (rows : List (List V)) : Bool := rows.all fun r => r.length == s
theorem uniB_ok {s : Nat} {rows : List (List V)} (h : uniB s rows = true) : uni s rows := fun r hr => by
  have := List.all_eq_true.1 h r hr
  simpa using this
def byteB : List V → Bool
  | [.int .u8 _] => true
  | _ => false
theorem byteB_ok {rows : List (List V)} (h : rows.all byteB = true) : isBytes rows := fun r hr => by
  have := List.all_eq_true.1 h r hr
  unfold byteB at this
  split at this
  · exact ⟨_, rfl⟩
  · cases this

def intBinB (op : BinOp) (y : Int) : Bool :=
  match op with
  | .quo | .rem => decide (y ≠ 0)
  | .shl | .shr => decide (0 ≤ y)
  | _ => true
def strBinB (op : BinOp) (x y : List UInt8) : Bool :=
  match op with
  | .add => decide (x.length + y.length ≤ 9223372036854775807)
  | _ => true
def binB (op : BinOp) (x y : V) : Bool :=
  match x, y with
  | .int _ _, .int _ b => intBinB op b
  | .str a, .str b => strBinB op a b
  | _, _ => true

theorem intBin_need (op : BinOp) (k : IntKind) (x y : Int) : NeedOk (intBinB op y) (intBin op k x y) := by
  cases op <;> simp [intBin, intBinB, NeedOk]
theorem strBin_need (op : BinOp) (x y : List UInt8) : NeedOk (strBinB op x y) (strBin op x y) := by
  cases op <;> simp [strBin, strBinB, NeedOk]
theorem bin_need (op : BinOp) (ek : Nat) (es : Option (List Pk)) (x y : V) : NeedOk (binB op x y) (evBin op ek es x y) := by
  unfold evBin
  split
  · simp only [binB]
    split
    · exact intBin_need ..
    · cases op <;> simp [intBinB, NeedOk]
  · exact strBin_need ..
  all_goals (repeat' split) <;> trivial
theorem nilEq_need (op : BinOp) (ek : Nat) (x : V) (b : Bool) : NeedOk b (evNilEq op ek x) := by
  unfold evNilEq nilEq
  (repeat' split) <;> trivial

def idxAddrB (sl : Option Nat) (ar : Option (Nat × Nat × Bool)) (x i : V) : Bool :=
  match x, i with
  | .sl _ rows, .int _ k => (match sl with | some s => decide (0 ≤ k ∧ k < rows.length ∧ (rows.getD k.toNat []).length = s) | none => true)
  | .ptr _ _, .int _ k => (match ar with | some (n, _, _) => decide (0 ≤ k ∧ k < n) | none => true)
  | .elp _ _, .int _ k => (match ar with | some (n, _, _) => decide (0 ≤ k ∧ k < n) | none => true)
  | .lsv _ _ _ _ m, .int _ k => decide (0 ≤ k ∧ k < m)
  | .bsv _ _ _ n, .int _ k => decide (0 ≤ k ∧ k < n)
  | _, _ => true
theorem idxAddr_need (sl : Option Nat) (ar : Option (Nat × Nat × Bool)) (x i : V) : NeedOk (idxAddrB sl ar x i) (evIdxAddr sl ar x i) := by
  unfold evIdxAddr
  split
  all_goals first | trivial | simp only [idxAddrB]
  all_goals split <;> first | trivial | simp only [NeedOk, decide_eq_true_eq, imp_self]

def idxB (x i : V) (ar : Option (Nat × Nat × Bool)) : Bool :=
  match x, i with
  | .str b, .int _ k => decide (0 ≤ k ∧ k < b.length)
  | .agg cs, .int _ k => (match ar with | some (n, s, false) => decide (0 ≤ k ∧ k < n ∧ (k.toNat * s) < cs.length) | _ => true)
  | _, _ => true
theorem idx_need (x i : V) (str : Bool) (ar : Option (Nat × Nat × Bool)) : NeedOk (idxB x i ar) (evIdx x i str ar) := by
  unfold evIdx
  split
  · simp only [idxB]
    split <;> first | trivial | simp only [NeedOk, decide_eq_true_eq, imp_self]
  · split
    · simp only [idxB, NeedOk, decide_eq_true_eq, imp_self]
    · trivial
  · trivial

def sliceB (es : Option Nat) (x : V) (lo hi : Option V) : Bool :=
  match x with
  | .lsv _ s n l0 m => (match bnd lo 0, bnd hi m, es with | some l, some h, some z => decide (0 ≤ l ∧ l ≤ h ∧ (h ≤ m ∨ (l0 : Int) + h ≤ n) ∧ z = s) | _, _, _ => true)
  | .str s => (match bnd lo 0, bnd hi s.length with | some l, some h => decide (0 ≤ l ∧ l ≤ h ∧ h ≤ s.length) | _, _ => true)
  | .sl _ rows => (match bnd lo 0, bnd hi rows.length, es with | some l, some h, some z => decide (0 ≤ l ∧ l ≤ h ∧ h ≤ rows.length) && uniB z rows | _, _, _ => true)
  | _ => true
theorem slice_need (ar : Option (Nat × Nat × Bool)) (k : Nat) (es : Option Nat) (x : V) (lo hi : Option V) : NeedOk (sliceB es x lo hi) (evSlice ar k es x lo hi) := by
  unfold evSlice
  split
  · split
    · rename_i h1 h2
      split
      · simp only [sliceB, h1, h2, NeedOk, decide_eq_true_eq, imp_self]
      · trivial
    · trivial
  · split <;> trivial
  · split
    · rename_i h1 h2
      split
      · simp only [sliceB, h1, h2, NeedOk, decide_eq_true_eq, imp_self]
      · trivial
    · trivial
  · split
    · rename_i h1 h2
      split
      · simp only [sliceB, h1, h2, NeedOk, Bool.and_eq_true, decide_eq_true_eq]
        exact fun h => ⟨h.1.1, h.1.2.1, h.1.2.2, uniB_ok h.2⟩
      · trivial
    · trivial
  · trivial

def slice3B (es : Option Nat) (x lo hi mx : V) : Bool :=
  match x, lo, hi, mx, es with
  | .sl _ rows, .int _ l, .int _ h, .int _ m, some z => decide (0 ≤ l ∧ l ≤ h ∧ h ≤ rows.length ∧ m = h) && uniB z rows
  | .lsv _ s _ _ n, .int _ l, .int _ h, .int _ m, some z => decide (0 ≤ l ∧ l ≤ h ∧ h ≤ m ∧ m ≤ n ∧ z = s)
  | _, _, _, _, _ => true
theorem slice3_need (es : Option Nat) (x lo hi mx : V) : NeedOk (slice3B es x lo hi mx) (evSlice3 es x lo hi mx) := by
  unfold evSlice3
  split
  · simp only [slice3B, NeedOk, Bool.and_eq_true, decide_eq_true_eq]
    exact fun h => ⟨h.1.1, h.1.2.1, h.1.2.2.1, h.1.2.2.2, uniB_ok h.2⟩
  · simp only [slice3B, NeedOk, decide_eq_true_eq, imp_self]
  · trivial

def convB (x : V) : Bool :=
  match x with
  | .sl _ rows => rows.all byteB
  | _ => true
theorem conv_need (ks kd : Option Kd) (x : V) : NeedOk (convB x) (evConv ks kd x) := by
  unfold evConv
  split
  · split <;> trivial
  · split <;> trivial
  · split <;> trivial
  · split
    · exact byteB_ok
    · trivial
  · trivial

def makeB (el : Option (Nat × Nat)) (l m : V) : Bool :=
  match el, l, m with
  | some (_, by'), .int .i64 n, .int .i64 k => decide (0 ≤ n ∧ n ≤ k ∧ k.toNat * by' ≤ 140737488355328)
  | _, _, _ => false
theorem make_need (el : Option (Nat × Nat)) (zs : Option (List V)) (σ : St) (l m : V) : NeedOk (makeB el l m) (evMake el zs σ l m) := by
  unfold evMake
  split
  · simp only [makeB, NeedOk, decide_eq_true_eq, imp_self]
  · trivial
theorem makeL_need (el : Option (Nat × Nat)) (zs : Option (List V)) (σ : St) (l m : V) : NeedOk (makeB el l m) (evMakeL el zs σ l m) := by
  unfold evMakeL
  split
  · simp only [makeB, NeedOk, decide_eq_true_eq, imp_self]
  · trivial

def clearB (sl : Option Nat) (σ : St) (x : V) : Bool :=
  match x with
  | .lsv id s n lo m => (match σ[id]? with | some (.lst rows s') => decide (sl = some s ∧ s' = s ∧ rows.length = n ∧ lo + m ≤ n) | _ => true)
  | _ => true
theorem clear_need (sl : Option Nat) (zs : Option (List V)) (σ : St) (x : V) : NeedOk (clearB sl σ x) (evClear sl zs σ x) := by
  unfold evClear
  split
  · split
    · rename_i h1
      simp only [clearB, h1, NeedOk, decide_eq_true_eq, imp_self]
    · trivial
  · trivial

def srcB (σ : St) : V → Bool
  | .lsv id s n lo m => (match σ[id]? with | some (.lst rows s') => decide (s' = s ∧ rows.length = n ∧ lo + m ≤ n) && pureRows ((rows.drop lo).take m) | _ => false)
  | _ => true
theorem srcB_ok {σ : St} {y : V} (h : srcB σ y = true) : srcNeed σ y := by
  unfold srcNeed
  split
  · simp only [srcB] at h
    split at h
    · rename_i h1
      rw [h1]
      simp only [Bool.and_eq_true, decide_eq_true_eq] at h
      exact ⟨h.1.1, h.1.2.1, h.1.2.2, h.2⟩
    · cases h
  · trivial

def appendB (el : Option (Nat × Nat)) (k2 : Nat) (σ : St) (x y : V) : Bool :=
  match el, srcRows k2 σ y with
  | some (s, by'), some r2 =>
    (match x with
    | .sl .full r1 => srcB σ y && decide ((r1.length + r2.length) * by' ≤ 140737488355328) && uniB s r1 && uniB s r2
    | .sl (.app id) r1 => (match σ[id]? with
      | some (.app n s') => srcB σ y && decide (r1.length = n ∧ s' = s ∧ (r1.length + r2.length) * by' ≤ 140737488355328) && uniB s r2
      | _ => true)
    | .lsv id s1 n lo m => (match σ[id]? with
      | some (.lst rows s') => srcB σ y && decide (s1 = s ∧ s' = s ∧ rows.length = n) && uniB s r2 && (decide (lo + m + r2.length ≤ n) || decide (lo = 0 ∧ m = n ∧ (n + r2.length) * by' ≤ 140737488355328))
      | _ => true)
    | _ => true)
  | _, _ => true
theorem append_need (el : Option (Nat × Nat)) (k2 : Nat) (σ : St) (x y : V) : NeedOk (appendB el k2 σ x y) (evAppend el k2 σ x y) := by
  unfold evAppend
  split
  · rename_i h2
    split
    · simp only [appendB, h2, NeedOk, Bool.and_eq_true, decide_eq_true_eq]
      exact fun h => ⟨srcB_ok h.1.1.1, h.1.1.2, uniB_ok h.1.2, uniB_ok h.2⟩
    · split
      · rename_i h3
        simp only [appendB, h2, h3, NeedOk, Bool.and_eq_true, decide_eq_true_eq]
        exact fun h => ⟨srcB_ok h.1.1, h.1.2.1, h.1.2.2.1, h.1.2.2.2, uniB_ok h.2⟩
      · trivial
    · split
      · rename_i h3
        split
        · simp only [appendB, h2, h3, NeedOk, Bool.and_eq_true, decide_eq_true_eq]
          exact fun h => ⟨srcB_ok h.1.1.1, h.1.1.2.1, h.1.1.2.2.1, h.1.1.2.2.2, uniB_ok h.1.2⟩
        · rename_i hno
          simp only [appendB, h2, h3, NeedOk, Bool.and_eq_true, Bool.or_eq_true, decide_eq_true_eq]
          exact fun h => ⟨srcB_ok h.1.1.1, h.1.1.2.1, h.1.1.2.2.1, h.1.1.2.2.2, uniB_ok h.1.2, (h.2.resolve_left hno)⟩
      · trivial
    · trivial
  · trivial

def appendLB (el : Option (Nat × Nat)) (k2 : Nat) (σ : St) (x y : V) : Bool :=
  match el, srcRows k2 σ y with
  | some (s, by'), some r2 =>
    (match x with
    | .sl .full r1 => srcB σ y && decide ((r1.length + r2.length) * by' ≤ 140737488355328) && uniB s r1 && uniB s r2 && (!r2.isEmpty || r1.isEmpty)
    | _ => true)
  | _, _ => true
theorem appendL_need (el : Option (Nat × Nat)) (k2 : Nat) (σ : St) (x y : V) : NeedOk (appendLB el k2 σ x y) (evAppendL el k2 σ x y) := by
  unfold evAppendL
  split
  · rename_i h2
    split
    · simp only [appendLB, h2, NeedOk, Bool.and_eq_true, decide_eq_true_eq]
      refine fun h => ⟨srcB_ok h.1.1.1.1, h.1.1.1.2, uniB_ok h.1.1.2, uniB_ok h.1.2, fun e => ?_⟩
      have := h.2
      rw [e] at this
      simpa using this
    · trivial
  · trivial

def buildSliceB (L : Bool) (es : Option Nat) (len : Nat) (parts : List (Nat × V)) : Bool :=
  match es with
  | some s => (parts.all fun p => (L || pureA p.2) && (cellsV p.2).length == s) && decide (len * s ≤ 16777216 ∧ 0 < s)
  | none => true
theorem buildSlice_need (es : Option Nat) (len : Nat) (parts : List (Nat × V)) : NeedOk (buildSliceB false es len parts) (evBuildSlice es len parts) := by
  unfold evBuildSlice
  split
  · split
    · simp only [buildSliceB, NeedOk, Bool.and_eq_true, decide_eq_true_eq, List.all_eq_true, Bool.false_or, beq_iff_eq]
      exact fun h => ⟨fun p hp => h.1 p hp, h.2⟩
    · trivial
  · trivial
theorem buildSliceL_need (es : Option Nat) (len : Nat) (σ : St) (parts : List (Nat × V)) : NeedOk (buildSliceB true es len parts) (evBuildSliceL es len σ parts) := by
  unfold evBuildSliceL
  split
  · split
    · simp only [buildSliceB, NeedOk, Bool.and_eq_true, decide_eq_true_eq, List.all_eq_true, Bool.true_or, beq_iff_eq]
      exact fun h => ⟨fun p hp => (h.1 p hp).2, h.2⟩
    · trivial
  · trivial

/-- What is needed of an operation, as a test. -/
def needB (P : Program) (L : Bool) (e : Env) (σ : St) : Op → Bool
  | .buildSlice t n ps => buildSliceB L ((elT P t).map (·.1)) n (ps.toList.map fun p => (p.1, evalV e p.2))
  | .binOp op _ x y _ => binB op (evalV e x) (evalV e y)
  | .convert _ _ x => convB (evalV e x)
  | .slice t x lo hi none => sliceB ((elT P t).map (·.1)) (evalV e x) (lo.map (evalV e)) (hi.map (evalV e))
  | .slice t x (some lo) (some hi) (some mx) => slice3B ((elT P t).map (·.1)) (evalV e x) (evalV e lo) (evalV e hi) (evalV e mx)
  | .indexAddr t x i => idxAddrB (slcT P t) (arrT P t) (evalV e x) (evalV e i)
  | .index t x i => idxB (evalV e x) (evalV e i) (arrT P t)
  | .makeSlice t l m => makeB (elT P t) (evalV e l) (evalV e m)
  | .call ⟨.builtin .append, ⟨[x, y]⟩, ⟨[t, t']⟩⟩ => if L then appendLB (elT P t) (lenT P t') σ (evalV e x) (evalV e y) else appendB (elT P t) (lenT P t') σ (evalV e x) (evalV e y)
  | .call ⟨.builtin .clear, ⟨[x]⟩, ⟨[t]⟩⟩ => clearB ((elT P t).map (·.1)) σ (evalV e x)
  | _ => true

/-- An operation that needs nothing. -/
def quiet : R → Bool
  | .need _ _ | .needst _ _ _ => false
  | _ => true
theorem quiet_ok {b : Bool} {r : R} (h : quiet r = true) : NeedOk b r := by
  cases r <;> first | trivial | cases h

theorem evOp_need {P : Program} {e : Env} {σ : St} (op : Op) : NeedOk (needB P false e σ op) (evOp P e σ op) := by
  unfold evOp
  split
  · trivial
  · trivial
  · refine quiet_ok ?_; unfold evPick; (repeat' split) <;> rfl
  · refine quiet_ok ?_; unfold evAlloc; (repeat' split) <;> rfl
  · refine quiet_ok ?_; unfold evBox; (repeat' split) <;> rfl
  · refine quiet_ok ?_; unfold evBuild; (repeat' split) <;> rfl
  · exact buildSlice_need ..
  · refine quiet_ok ?_; unfold evLoad; (repeat' split) <;> first | rfl | (unfold evLoadC; (repeat' split) <;> rfl)
  · refine quiet_ok ?_; unfold evStore; (repeat' split) <;> rfl
  · refine quiet_ok ?_; unfold evNil; (repeat' split) <;> rfl
  · split
    · exact nilEq_need ..
    · exact bin_need ..
  · refine quiet_ok ?_; unfold evUn; (repeat' split) <;> rfl
  · exact conv_need ..
  · exact slice_need ..
  · exact slice3_need ..
  · refine quiet_ok ?_; unfold evFieldAddr; (repeat' split) <;> rfl
  · refine quiet_ok ?_; unfold evField; (repeat' split) <;> rfl
  · exact idxAddr_need ..
  · exact idx_need ..
  · refine quiet_ok ?_; unfold evExtract; (repeat' split) <;> rfl
  · refine quiet_ok ?_; unfold evFunc; (repeat' split) <;> rfl
  · exact make_need ..
  · refine quiet_ok ?_; unfold evLen; (repeat' split) <;> rfl
  · exact append_need ..
  · exact clear_need ..
  · refine quiet_ok ?_; unfold evMin; (repeat' split) <;> rfl
  · refine quiet_ok ?_; unfold evMin; (repeat' split) <;> rfl
  · trivial
theorem evOpL_need {P : Program} {e : Env} {σ : St} (op : Op) : NeedOk (needB P false e σ op && needB P true e σ op) (evOpL P e σ op) := by
  have weak : ∀ {b c : Bool} {r : R}, NeedOk b r → NeedOk (c && b) r := by
    intro b c r h
    cases r with
    | need p v => exact fun q => h (by simp at q; exact q.2)
    | needst p v s => exact fun q => h (by simp at q; exact q.2)
    | _ => trivial
  have weak1 : ∀ {b c : Bool} {r : R}, NeedOk b r → NeedOk (b && c) r := by
    intro b c r h
    cases r with
    | need p v => exact fun q => h (by simp at q; exact q.1)
    | needst p v s => exact fun q => h (by simp at q; exact q.1)
    | _ => trivial
  unfold evOpL
  split
  · exact weak (buildSliceL_need ..)
  · exact weak (makeL_need ..)
  · refine quiet_ok ?_; unfold evConvL; (repeat' split) <;> rfl
  · exact weak (appendL_need ..)
  · exact weak1 (evOp_need op)

/-- The operation, run. -/
def xopR (b : Bool) (σ : St) : R → Option (V × St)
  | .ok v => some (v, σ)
  | .need _ v => if b then some (v, σ) else none
  | .st v σ' => some (v, σ')
  | .needst _ v σ' => if b then some (v, σ') else none
  | _ => none
def xop (P : Program) (d : Option Tmp) (e : Env) (σ : St) (op : Op) : Option (V × St) :=
  if hinted e d then xopR (needB P false e σ op && needB P true e σ op) σ (evOpL P e σ op) else xopR (needB P false e σ op) σ (evOp P e σ op)

theorem xopR_fin {b : Bool} {σ σ' : St} {r : R} {v : V} {nt : Nat} {d : Option Tmp} {K : KT} {e : Env} (hn : NeedOk b r) (h : xopR b σ r = some (v, σ')) (hk : vput nt d v K e σ') : vfin nt d r K e σ := by
  cases r with
  | fail => cases h
  | ok v' => cases h; exact hk
  | need p v' =>
    simp only [xopR] at h
    split at h
    · rename_i hb
      cases h; exact ⟨hn hb, hk⟩
    · cases h
  | st v' s => cases h; exact hk
  | needst p v' s =>
    simp only [xopR] at h
    split at h
    · rename_i hb
      cases h; exact ⟨hn hb, hk⟩
    · cases h
  | all f => cases h

theorem xop_fin {P : Program} {σ σ' : St} {op : Op} {v : V} {nt : Nat} {d : Option Tmp} {K : KT} {e : Env} (h : xop P d e σ op = some (v, σ')) (hk : vput nt d v K e σ') : vfin nt d (evOpH P d e σ op) K e σ := by
  unfold xop at h
  unfold evOpH
  split at h
  · rename_i hh
    rw [if_pos hh]
    exact xopR_fin (evOpL_need op) h hk
  · rename_i hh
    rw [if_neg hh]
    exact xopR_fin (evOp_need op) h hk
end Go.Vx
