/-
  Operations over trees: what each gives, and that the machine does the same.
  No condition: a library text; nothing of the program is named.
-/
import Derived.Test.YtpghpndeihkcoaaVxC
namespace Go.Vx
open Go

structure Sim (c : Ctx) (nt : Nat) (e : Env) (σ : St) (a : Act) (w : World) (L : Nat → Nat) (β : List Value) : Prop where
  mem : Mem c w L σ β
  size : a.tmps.size = nt
  defs : a.defers = []
  env : ∀ t, RdS w L σ β (e t) (a.tmps.getD t undef)

def ofVal : Value → V
  | .bool b => .bool b
  | .int k n => .int k n
  | .string s => .str s.data.toList
  | .pointer none => .nilp
  | .slice none 0 0 => .sl .full []
  | .agg _ => .u
  | .tuple _ => .u
  | v => .raw v

/-- A table's address, of one that is listed. -/
def globV (g : Nat) : V := match tabs.find? (fun p => p.1 == g) with
  | some p => .elp p.2 0
  | none => .u
def evalV (e : Env) : Operand → V
  | .tmp t => e t
  | .const v => ofVal v
  | .func f => .fn f []
  | .global g => globV g

def isCell : V → Bool
  | .u | .agg _ | .tup _ => false
  | _ => true
theorem ofVal_rd {w : World} {L : Nat → Nat} {σ : St} {β : List Value} (v : Value) : RdS w L σ β (ofVal v) v := by
  unfold ofVal
  split
  · exact RdP.bool _
  · exact RdP.int _ _
  · rename_i s
    have : RdP w L (.str s.data.toList) (.string ⟨s.data.toList.toArray⟩) := .str _
    exact this
  · exact RdP.nilp
  · exact RdP.sl0 _ _ _ (fun _ => rfl) (fun _ => by simp)
  · trivial
  · trivial
  · rename_i h1 h2 h3 h4 h5 h6 h7
    refine RdP.raw v ?_
    cases v <;> first | rfl | exact (h6 _ rfl).elim | exact (h7 _ rfl).elim

theorem ofVal_cell {w : World} {L : Nat → Nat} (v : Value) (h1 : v.oneCell' = true) : RdP w L (ofVal v) v ∧ isCell (ofVal v) = true := by
  unfold ofVal
  split
  · exact ⟨RdP.bool _, rfl⟩
  · exact ⟨RdP.int _ _, rfl⟩
  · rename_i s
    have : RdP w L (.str s.data.toList) (.string ⟨s.data.toList.toArray⟩) := .str _
    exact ⟨this, rfl⟩
  · exact ⟨RdP.nilp, rfl⟩
  · exact ⟨RdP.sl0 _ _ _ (fun _ => rfl) (fun _ => by simp), rfl⟩
  · simp [Value.oneCell'] at h1
  · simp [Value.oneCell'] at h1
  · exact ⟨RdP.raw _ h1, rfl⟩

theorem Sim.eval {c : Ctx} {nt : Nat} {e : Env} {σ : St} {a : Act} {w : World} {L : Nat → Nat} {β : List Value} (h : Sim c nt e σ a w L β) (x : Operand) : RdS w L σ β (evalV e x) (a.eval x) := by
  cases x with
  | tmp t => exact h.env t
  | const v => exact ofVal_rd v
  | func f => exact ⟨[], rfl, trivial⟩
  | global g =>
    show RdS w L σ β (globV g) _
    unfold globV
    split
    · rename_i p hp
      have hm := List.mem_of_find?_eq_some hp
      have hg : p.1 = g := by simpa using List.find?_some hp
      have hr := ((h.mem.tab.tab p hm).mono h.mem.le).rd (σ := σ) (β := β)
      rw [hg] at hr
      exact hr
    · trivial

/-- What an operation comes to. -/
inductive R where
  | fail
  | ok (v : V)
  | need (p : Prop) (v : V)
  | st (v : V) (σ : St)
  | needst (p : Prop) (v : V) (σ : St)
  | all (f : Bool → V)
  | any (l : List (V × St))

section tables
variable (P : Program)
def szT (t : TypeId) : Option Nat := (P.info? t).map (·.size)
def isAggD : TypeDesc → Bool
  | .struct _ | .array _ _ => true
  | _ => false
def aggT (t : TypeId) : Option Bool := (P.underlying t).map isAggD
/-- A field: where it lies, how many cells it has, whether it is a struct or an array. -/
def fldT (t : TypeId) (f : Nat) : Option (Nat × Nat × Bool) :=
  match P.underlying t with
  | some (.struct fs) => (fs[f]?).bind fun f => (szT P f.type).bind fun s => (aggT P f.type).bind fun b => if s = 0 then none else some (f.offset, s, b)
  | _ => none
def slcT (t : TypeId) : Option Nat :=
  match P.underlying t with
  | some (.slice e) => szT P e
  | _ => none
def arrT (t : TypeId) : Option (Nat × Nat × Bool) :=
  match P.underlying t with
  | some (.array n e) => (szT P e).bind fun s => (aggT P e).map fun b => (n, s, b)
  | _ => none
def zeroT (t : TypeId) : Option (List V) := (P.info? t).bind fun i => (i.zero).bind fun z => if z.cells.all (·.oneCell') = true then some (z.cells.toList.map ofVal) else none
/-- A slice type's elements: cells, bytes, and that there is a zero of that many cells. -/
def elT (t : TypeId) : Option (Nat × Nat) :=
  match P.underlying t with
  | some (.slice e) => (P.info? e).bind fun i => i.zero.bind fun z => if z.cells.size = i.size ∧ 0 < i.size ∧ 0 < i.bytes then some (i.size, i.bytes) else none
  | _ => none
inductive Kd where
  | int (k : IntKind) | str | bytes | other
  deriving DecidableEq
def kdT (t : TypeId) : Option Kd :=
  match P.underlying t with
  | some (.int k) => some (.int k)
  | some .string => some .str
  | some (.slice e) => (match P.underlying e with | some (.int .u8) => some .bytes | _ => some .other)
  | some _ => some .other
  | none => none
end tables

/-- What may be laid into a row: a cell that names no object. -/
def pureV : V → Bool
  | .bool _ | .int _ _ | .str _ | .raw _ | .nilp | .sl _ _ => true
  | _ => false
def dem : V → V
  | .sl _ rows => .sl .ro rows
  | v => v
def cellsV : V → List V
  | .agg cs => cs
  | v => [v]

theorem RdP.weak {w : World} {L : Nat → Nat} {g : Tag} {rows : List (List V)} {x : Value} (r : RdP w L (.sl g rows) x) : RdP w L (.sl .ro rows) x := by
  cases r with
  | sl0 _ a cap hg ha => exact .sl0 _ a cap (fun e => by cases e) (fun _ => by simp)
  | sl _ _ s b o cap c ha hs hlen hlim hcap hg hc hr => exact .sl _ rows s b o cap c (fun _ => by simp) hs hlen hlim hcap (fun e => by cases e) hc hr

theorem RdC.dem {w : World} {L : Nat → Nat} {σ : St} {β : List Value} {v : V} {x : Value} (r : RdC w L σ β v x) (h : pureV v = true) : RdP w L (dem v) x := by
  cases v with
  | sl g rows => cases g with
    | ro => exact r
    | full => exact RdP.weak r
    | app id => exact r.1
  | u => simp [pureV] at h
  | ptr _ _ => simp [pureV] at h
  | elp _ _ => simp [pureV] at h
  | lsv _ _ _ _ _ => simp [pureV] at h
  | lsp _ _ _ _ _ => simp [pureV] at h
  | bsv _ _ _ _ => simp [pureV] at h
  | mp _ => simp [pureV] at h
  | fn _ _ => simp [pureV] at h
  | agg _ => simp [pureV] at h
  | tup _ => simp [pureV] at h
  | bool b => exact r
  | int k n => exact r
  | str s => exact r
  | raw v => exact r
  | nilp => exact r

section inv
variable {w : World} {L : Nat → Nat} {σ : St} {β : List Value}
theorem rdS_bool {b : Bool} {x : Value} (r : RdS w L σ β (.bool b) x) : x = .bool b := by
  cases r; rfl
theorem rdS_int {k : IntKind} {n : Int} {x : Value} (r : RdS w L σ β (.int k n) x) : x = .int k n := by
  cases r; rfl
theorem rdS_str {s : List UInt8} {x : Value} (r : RdS w L σ β (.str s) x) : x = .string ⟨s.toArray⟩ := by
  cases r; rfl
theorem rdS_nilp {x : Value} (r : RdS w L σ β .nilp x) : x = .pointer none := by
  cases r; rfl
theorem rdS_sl {g : Tag} {rows : List (List V)} {x : Value} (r : RdS w L σ β (.sl g rows) x) : RdP w L (.sl .ro rows) x := by
  cases g with
  | ro => exact r
  | full => exact RdP.weak r
  | app id => exact r.1
theorem rdS_cell {v : V} {x : Value} (r : RdS w L σ β v x) (h : isCell v = true) : RdC w L σ β v x := by
  cases v <;> first | exact r | simp [isCell] at h
theorem cells_one {x : Value} (h : x.oneCell' = true) : x.cells = #[x] := by
  cases x <;> first | rfl | simp [Value.oneCell'] at h
def hasCells : V → Bool
  | .u | .tup _ => false
  | _ => true
theorem rdS_cells {v : V} {x : Value} (r : RdS w L σ β v x) (h : hasCells v = true) : All2 (RdC w L σ β) (cellsV v) x.cells.toList := by
  by_cases hc : isCell v = true
  · have r' := rdS_cell r hc
    rw [cells_one r'.oneCell]
    have : cellsV v = [v] := by cases v <;> first | rfl | simp [isCell] at hc
    rw [this]
    exact ⟨r', trivial⟩
  · cases v with
    | agg cs => obtain ⟨xs, rfl, h⟩ := r; exact h
    | u => simp [hasCells] at h
    | tup vs => simp [hasCells] at h
    | _ => simp [isCell] at hc
end inv
end Go.Vx
