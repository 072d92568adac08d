/-
  Operations over trees: indexes, slices, lengths, appends, literals, conversions.
  No condition: a library text; nothing of the program is named.
-/
import Derived.Test.YtpghpndeihkcoaaVxF
namespace Go.Vx
open Go

section
variable {P : Program} {c : Ctx} {nt : Nat} {e : Env} {σ : St} {a : Act} {w : World} {L : Nat → Nat} {β : List Value} {o : Oper}

/-- An index's address: into a slice that is read, into an array of a box. -/
def evIdxAddr (sl : Option Nat) (ar : Option (Nat × Nat × Bool)) (x i : V) : R :=
  match x, i with
  | .sl _ rows, .int _ k => (match sl with
    | some s => .need (0 ≤ k ∧ k < rows.length ∧ (rows.getD k.toNat []).length = s) (.elp (rows.getD k.toNat []) 0)
    | none => .fail)
  | .ptr id off, .int _ k => (match ar with
    | some (n, s, _) => .need (0 ≤ k ∧ k < n) (.ptr id (off + k.toNat * s))
    | none => .fail)
  | .elp cs off, .int _ k => (match ar with
    | some (n, s, _) => .need (0 ≤ k ∧ k < n) (.elp cs (off + k.toNat * s))
    | none => .fail)
  | .lsv id s n lo m, .int _ k => if sl = some s then .need (0 ≤ k ∧ k < m) (.lsp id s n (lo + k.toNat) 0) else .fail
  | .bsv id s off n, .int _ k => if sl = some s then .need (0 ≤ k ∧ k < n) (.ptr id (off + k.toNat * s)) else .fail
  | _, _ => .fail

theorem slcT_some {t : TypeId} {s : Nat} (h : slcT P t = some s) : ∃ el, P.underlying t = some (.slice el) ∧ szT P el = some s := by
  unfold slcT at h
  split at h
  · exact ⟨_, by assumption, h⟩
  · simp at h

theorem arrT_some {t : TypeId} {n s : Nat} {b : Bool} (h : arrT P t = some (n, s, b)) : ∃ el, P.underlying t = some (.array n el) ∧ szT P el = some s ∧ aggT P el = some b := by
  unfold arrT at h
  split at h
  · rename_i m el hu
    cases hs : szT P el with
    | none => simp [hs] at h
    | some s' =>
      cases hb : aggT P el with
      | none => simp [hs, hb] at h
      | some b' =>
        simp [hs, hb] at h
        obtain ⟨rfl, rfl, rfl⟩ := h
        exact ⟨el, hu, hs, hb⟩
  · simp at h

theorem ok_idxAddr {dst : Option Tmp} {ty : TypeId} {pos : String} {aft : Array Edge} {g : Option (Nat × Bool)} (t : TypeId) (x i : Operand) (h : Sim c nt e σ a w L β) :
    ROk (evIdxAddr (slcT P t) (arrT P t) (evalV e x) (evalV e i)) σ (Yield P c ⟨dst, .indexAddr t x i, ty, pos, aft, g⟩ a w L σ β) := by
  have hx := h.eval x
  have hi := h.eval i
  unfold evIdxAddr
  split
  · rename_i gg rows kd k h1 h2
    rw [h1] at hx; rw [h2] at hi
    split
    · rename_i s hs
      obtain ⟨el, hu, hel⟩ := slcT_some hs
      rintro ⟨h0, hlt, hrow⟩
      have hk : k.toNat < rows.length := by omega
      have hne : rows ≠ [] := fun q => by subst q; simp at hk
      obtain ⟨s', b, o', cap, hv, hs', hu', hlim, _, _, hc⟩ := (rdS_sl hx).flat hne
      have hmem : rows.getD k.toNat [] ∈ rows := by
        rw [List.getD_eq_getElem?_getD, List.getElem?_eq_getElem hk]; exact List.getElem_mem hk
      have hss : s' = s := by rw [← hu' _ hmem]; exact hrow
      subst hss
      have hgd : rows.getD k.toNat [] = rows[k.toNat] := by rw [List.getD_eq_getElem?_getD, List.getElem?_eq_getElem hk]; rfl
      have e1 := rdS_int hi
      refine Yield.pure h (x := .pointer (some ⟨b, o' + k.toNat * s', none⟩)) ?_ ?_
      · simp [execOp, hv, e1, Instr.indexAt, asIntOf, run_underlying hu, run_sizeT hel, h0, hlt, add_none]
      · refine ⟨b, o' + k.toNat * s', fun j => (w.cell? ⟨b, o' + k.toNat * s' + j, none⟩).getD undef, rfl, ?_, fun j hj => ?_⟩
        · rw [hrow]
          have : (k.toNat + 1) * s' ≤ rows.length * s' := Nat.mul_le_mul_right _ hk
          rw [Nat.add_mul, Nat.one_mul] at this
          omega
        · rw [hrow] at hj
          obtain ⟨y, hy, r⟩ := hc (k.toNat * s' + j) ((rows.getD k.toNat [])[j]'(by rw [hrow]; exact hj)) (by
            rw [flatten_get _ _ hu' hj, List.getElem?_eq_getElem hk]
            simp only [Option.bind_some]
            rw [List.getElem?_eq_getElem (by rw [hu' _ (List.getElem_mem hk)]; exact hj)]
            simp only [hgd])
          rw [← Nat.add_assoc] at hy
          simpa [hy] using r
    · trivial
  · rename_i id off kd k h1 h2
    rw [h1] at hx; rw [h2] at hi
    split
    · rename_i n s b hs
      obtain ⟨el, hu, hel, _⟩ := arrT_some hs
      rintro ⟨h0, hlt⟩
      obtain ⟨bl, hb, hv⟩ := hx
      refine Yield.pure h (x := .pointer (some ⟨bl, off + k.toNat * s, none⟩)) ?_ ⟨bl, hb, rfl⟩
      simp [execOp, hv, rdS_int hi, Instr.indexAt, asIntOf, run_underlying hu, run_sizeT hel, h0, hlt, add_none, Instr.sureAddr]
    · trivial
  · rename_i cs off kd k h1 h2
    rw [h1] at hx; rw [h2] at hi
    split
    · rename_i n s b hs
      obtain ⟨el, hu, hel, _⟩ := arrT_some hs
      rintro ⟨h0, hlt⟩
      obtain ⟨bl, o', c', hv, hl, hc⟩ := hx
      refine Yield.pure h (x := .pointer (some ⟨bl, o' + (off + k.toNat * s), none⟩)) ?_ ⟨bl, o', c', rfl, hl, hc⟩
      simp [execOp, hv, rdS_int hi, Instr.indexAt, asIntOf, run_underlying hu, run_sizeT hel, h0, hlt, add_none, Instr.sureAddr, Nat.add_assoc]
    · trivial
  · rename_i id s n lo m kd k h1 h2
    rw [h1] at hx; rw [h2] at hi
    split
    · rename_i hs
      obtain ⟨el, hu, hel⟩ := slcT_some hs
      rintro ⟨h0, hlt⟩
      obtain ⟨ad, cap, hv, hm, hpos, hc⟩ := hx
      obtain ⟨b, o, rfl⟩ := hpos (by omega)
      refine Yield.pure h (x := .pointer (some ⟨b, o + k.toNat * s, none⟩)) ?_ ⟨b, o + k.toNat * s, rfl, ?_⟩
      · simp [execOp, hv, rdS_int hi, Instr.indexAt, asIntOf, run_underlying hu, run_sizeT hel, h0, hlt, add_none]
      · rcases hc with hd | ⟨rows, hσ, hn, hb⟩
        · exact .inl hd
        · refine .inr ⟨rows, hσ, hn, fun q1 q2 => ?_⟩
          obtain ⟨b0, c0, hβ, hcap, hlo, hadr⟩ := hb q1
          obtain ⟨k0, rfl, e⟩ := hadr (by omega)
          cases e
          exact ⟨c0, hβ, by rw [Nat.add_mul]; rfl⟩
    · trivial
  · rename_i id s off n kd k h1 h2
    rw [h1] at hx; rw [h2] at hi
    split
    · rename_i hs
      obtain ⟨el, hu, hel⟩ := slcT_some hs
      rintro ⟨h0, hlt⟩
      obtain ⟨bl, hb, hv⟩ := hx
      refine Yield.pure h (x := .pointer (some ⟨bl, off + k.toNat * s, none⟩)) ?_ ⟨bl, hb, rfl⟩
      simp [execOp, hv, rdS_int hi, Instr.indexAt, asIntOf, run_underlying hu, run_sizeT hel, h0, hlt, add_none]
    · trivial
  · trivial

def evIdx (x i : V) (str : Bool) (ar : Option (Nat × Nat × Bool)) : R :=
  match x, i with
  | .str b, .int _ k => if str then .need (0 ≤ k ∧ k < b.length) (.int .u8 (b.getD k.toNat 0).toNat) else .fail
  | .agg cs, .int _ k => (match ar with
    | some (n, s, false) => .need (0 ≤ k ∧ k < n ∧ (k.toNat * s) < cs.length) (cs.getD (k.toNat * s) .u)
    | _ => .fail)
  | _, _ => .fail

def strT (P : Program) (t : TypeId) : Bool := match P.underlying t with | some .string => true | _ => false
theorem strT_true {t : TypeId} (h : strT P t = true) : P.underlying t = some .string := by
  unfold strT at h
  split at h <;> first | assumption | simp at h

theorem ok_idx {dst : Option Tmp} {ty : TypeId} {pos : String} {aft : Array Edge} {g : Option (Nat × Bool)} (t : TypeId) (x i : Operand) (h : Sim c nt e σ a w L β) :
    ROk (evIdx (evalV e x) (evalV e i) (strT P t) (arrT P t)) σ (Yield P c ⟨dst, .index t x i, ty, pos, aft, g⟩ a w L σ β) := by
  have hx := h.eval x
  have hi := h.eval i
  unfold evIdx
  split
  · rename_i b kd k h1 h2
    rw [h1] at hx; rw [h2] at hi
    split
    · rename_i hs
      have hu := strT_true hs
      rintro ⟨h0, hlt⟩
      have hk : k.toNat < b.length := by omega
      refine Yield.pure h (x := .int .u8 (b.getD k.toNat 0).toNat) ?_ (RdP.int _ _)
      have hg : (ByteArray.mk b.toArray)[k.toNat]? = some (b.getD k.toNat 0) := by
        have : k.toNat < (ByteArray.mk b.toArray).size := by simpa [ByteArray.size] using hk
        rw [getElem?_pos (ByteArray.mk b.toArray) k.toNat this]
        rw [List.getD_eq_getElem?_getD, List.getElem?_eq_getElem hk]
        rfl
      simp [execOp, rdS_str hx, rdS_int hi, Instr.index, asIntOf, run_underlying hu, h0, hg]
    · trivial
  · rename_i cs kd k h1 h2
    rw [h1] at hx; rw [h2] at hi
    split
    · rename_i n s hs
      obtain ⟨el, hu, hel, hag⟩ := arrT_some hs
      rintro ⟨h0, hlt, hin⟩
      obtain ⟨xs, hv, hall⟩ := hx
      obtain ⟨y, hy, r⟩ := hall.get (k.toNat * s) _ (List.getElem?_eq_getElem hin)
      refine Yield.pure h (x := y) ?_ (RdS.of_cell ?_)
      · simp [execOp, hv, rdS_int hi, Instr.index, asIntOf, run_underlying hu, run_sizeT hel, h0, hlt, part, run_aggT hag, hy]
      · rw [List.getD_eq_getElem?_getD, List.getElem?_eq_getElem hin]; exact r
    · trivial
  · trivial

theorem size_mk (l : List UInt8) : (ByteArray.mk l.toArray).size = l.length := by simp [ByteArray.size]

/-- What the type of len's operand is. -/
def lenT (P : Program) (t : TypeId) : Nat :=
  match P.underlying t with
  | some .string => 1
  | some (.slice _) => 2
  | _ => 0
theorem lenT1 {t : TypeId} (h : lenT P t = 1) : P.underlying t = some .string := by
  unfold lenT at h
  split at h <;> first | assumption | simp at h
theorem lenT2 {t : TypeId} (h : lenT P t = 2) : ∃ el, P.underlying t = some (.slice el) := by
  unfold lenT at h
  split at h <;> first | exact ⟨_, by assumption⟩ | simp at h

def evLen (k : Nat) (x : V) : R :=
  match x with
  | .sl _ rows => if k = 2 then .ok (.int .i64 rows.length) else .fail
  | .str s => if k = 1 then .ok (.int .i64 s.length) else .fail
  | .lsv _ _ _ _ m => if k = 2 then .ok (.int .i64 m) else .fail
  | .bsv _ _ _ n => if k = 2 then .ok (.int .i64 n) else .fail
  | _ => .fail

theorem ok_len {dst : Option Tmp} {ty : TypeId} {pos : String} {aft : Array Edge} {g : Option (Nat × Bool)} (t : TypeId) (x : Operand) (h : Sim c nt e σ a w L β) :
    ROk (evLen (lenT P t) (evalV e x)) σ (Yield P c ⟨dst, .call ⟨.builtin .len, #[x], #[t]⟩, ty, pos, aft, g⟩ a w L σ β) := by
  have hx := h.eval x
  unfold evLen
  split
  · rename_i gg rows h1
    rw [h1] at hx
    obtain ⟨a', cap, hv, _, _⟩ := (rdS_sl hx).len
    split
    · rename_i hk
      obtain ⟨el, hu⟩ := lenT2 hk
      exact Yield.pure h (x := .int .i64 rows.length) (by simp [execOp, resolve, invoke, builtin, Builtin.len_, hv, run_underlying hu, goInt]) (RdP.int _ _)
    · trivial
  · rename_i s h1
    rw [h1] at hx
    split
    · rename_i hk
      exact Yield.pure h (x := .int .i64 s.length) (by simp [execOp, resolve, invoke, builtin, Builtin.len_, rdS_str hx, run_underlying (lenT1 hk), goInt, size_mk]) (RdP.int _ _)
    · trivial
  · rename_i id s n lo m h1
    rw [h1] at hx
    obtain ⟨ad, cap, hv, _⟩ := hx
    split
    · rename_i hk
      obtain ⟨el, hu⟩ := lenT2 hk
      exact Yield.pure h (x := .int .i64 m) (by simp [execOp, resolve, invoke, builtin, Builtin.len_, hv, run_underlying hu, goInt]) (RdP.int _ _)
    · trivial
  · rename_i id s off n h1
    rw [h1] at hx
    obtain ⟨bl, _, hv⟩ := hx
    split
    · rename_i hk
      obtain ⟨el, hu⟩ := lenT2 hk
      exact Yield.pure h (x := .int .i64 n) (by simp [execOp, resolve, invoke, builtin, Builtin.len_, hv, run_underlying hu, goInt]) (RdP.int _ _)
    · trivial
  · trivial

/-- Min and max of integers of one kind. -/
def evMin (isMax : Bool) : List V → R
  | [.int k x, .int _ y] => .ok (.int k (if isMax then (if y > x then y else x) else (if y < x then y else x)))
  | [.str x, .str y] => .ok (.str (if isMax then (if Op.bytesLess x y then y else x) else (if (Op.bytesLess x y || x == y) then x else y)))
  | [.int k x, .int _ y, .int _ z] => .ok (.int k (if isMax then (let m := if y > x then y else x; if z > m then z else m) else (let m := if y < x then y else x; if z < m then z else m)))
  | _ => .fail

theorem ok_min {dst : Option Tmp} {ty : TypeId} {pos : String} {aft : Array Edge} {g : Option (Nat × Bool)} (ts : Array TypeId) (xs : List Operand) (isMax : Bool) (h : Sim c nt e σ a w L β) :
    ROk (evMin isMax (xs.map (evalV e))) σ (Yield P c ⟨dst, .call ⟨.builtin (if isMax then .max else .min), xs.toArray, ts⟩, ty, pos, aft, g⟩ a w L σ β) := by
  unfold evMin
  split
  · rename_i k m k' n hl
    obtain ⟨x, y, rfl⟩ : ∃ x y, xs = [x, y] := by
      cases xs with
      | nil => simp at hl
      | cons x xs => cases xs with
        | nil => simp at hl
        | cons y xs => cases xs with
          | nil => exact ⟨x, y, rfl⟩
          | cons z xs => simp at hl
    simp at hl
    have e1 := rdS_int (hl.1 ▸ h.eval x); have e2 := rdS_int (hl.2 ▸ h.eval y)
    cases isMax
    · exact Yield.pure h (x := .int k (if n < m then n else m)) (by simp [execOp, resolve, invoke, builtin, Builtin.min_, Builtin.min2, e1, e2]) (RdP.int _ _)
    · exact Yield.pure h (x := .int k (if n > m then n else m)) (by simp [execOp, resolve, invoke, builtin, Builtin.max_, Builtin.max2, e1, e2]) (RdP.int _ _)
  · rename_i m n hl
    obtain ⟨x, y, rfl⟩ : ∃ x y, xs = [x, y] := by
      cases xs with
      | nil => simp at hl
      | cons x xs => cases xs with
        | nil => simp at hl
        | cons y xs => cases xs with
          | nil => exact ⟨x, y, rfl⟩
          | cons z xs => simp at hl
    simp at hl
    have e1 := rdS_str (hl.1 ▸ h.eval x); have e2 := rdS_str (hl.2 ▸ h.eval y)
    cases isMax
    · refine Yield.pure h (x := .string ⟨(if (Op.bytesLess m n || m == n) then m else n).toArray⟩) ?_ (RdP.str _)
      simp [execOp, resolve, invoke, builtin, Builtin.min_, Builtin.min2, e1, e2, Op.stringOp, asBool]
      split <;> rfl
    · refine Yield.pure h (x := .string ⟨(if Op.bytesLess m n then n else m).toArray⟩) ?_ (RdP.str _)
      simp [execOp, resolve, invoke, builtin, Builtin.max_, Builtin.max2, e1, e2, Op.stringOp, asBool]
      cases Op.bytesLess m n <;> rfl
  · rename_i k m k' n k'' q hl
    obtain ⟨x, y, z, rfl⟩ : ∃ x y z, xs = [x, y, z] := by
      cases xs with
      | nil => simp at hl
      | cons x xs => cases xs with
        | nil => simp at hl
        | cons y xs => cases xs with
          | nil => simp at hl
          | cons z xs => cases xs with
            | nil => exact ⟨x, y, z, rfl⟩
            | cons _ _ => simp at hl
    simp at hl
    have e1 := rdS_int (hl.1 ▸ h.eval x); have e2 := rdS_int (hl.2.1 ▸ h.eval y); have e3 := rdS_int (hl.2.2 ▸ h.eval z)
    cases isMax
    · exact Yield.pure h (x := .int k (let p := if n < m then n else m; if q < p then q else p)) (by simp [execOp, resolve, invoke, builtin, Builtin.min_, Builtin.min2, e1, e2, e3]) (RdP.int _ _)
    · exact Yield.pure h (x := .int k (let p := if n > m then n else m; if q > p then q else p)) (by simp [execOp, resolve, invoke, builtin, Builtin.max_, Builtin.max2, e1, e2, e3]) (RdP.int _ _)
  · trivial
end
end Go.Vx
