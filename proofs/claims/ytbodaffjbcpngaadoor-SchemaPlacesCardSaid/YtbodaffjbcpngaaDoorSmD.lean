/-
  Contracts of functions that the claimed statement reaches, each proved over trees (the library Vx); used by the theorem at the end of the claim.
  Conditions: as each theorem states them.
-/
import Derived.Test.YtbodaffjbcpngaaDoorDat
import Derived.Test.YtbodaffjbcpngaaDoorVxU
namespace Go.Proofs.YtbodaffjbcpngaaDoor
open Go Go.Vx
set_option maxRecDepth 100000

theorem argS_rows {ρ : Nat → Nat} {g : Tag} {rows rows' : List (List V)} (h : rows' = rows) : argS ρ (.sl .ro rows') (.sl g rows) := by subst h; exact argS_ro
theorem u8_idn {n : Int} (h : 0 ≤ n) (h2 : n ≤ 255) : IntKind.u8.wrap n = n := by
  unfold IntKind.wrap
  simp [IntKind.bits, IntKind.signed]
  omega
/-- A letter made great. -/
def greatF (c : UInt8) : UInt8 := if 97 ≤ c.toNat ∧ c.toNat ≤ 122 then UInt8.ofNat (c.toNat - 32) else c
def digitF (c : UInt8) : Bool := decide (48 ≤ c.toNat ∧ c.toNat ≤ 57)
def letterF (c : UInt8) : Bool := decide (65 ≤ (greatF c).toNat ∧ (greatF c).toNat ≤ 90) || decide (c.toNat = 95)
/-- The words that are no names. -/
def resv : List (List UInt8) := [[65, 76, 76], [65, 78, 68], [65, 83], [65, 83, 67], [66, 69, 84, 87, 69, 69, 78], [66, 79, 85, 78, 68], [66, 89], [67, 79, 85, 78, 84], [68, 69, 76, 69, 84, 69], [68, 69, 83, 67], [69, 88, 65, 67, 84], [70, 65, 76, 83, 69], [70, 82, 79, 77], [73, 78, 83, 69, 82, 84], [73, 78, 84, 79], [73, 83], [76, 73, 77, 73, 84], [78, 79, 84], [78, 85, 76, 76], [78, 79, 87], [79, 70], [79, 82], [79, 82, 68, 69, 82], [83, 69, 76, 69, 67, 84], [83, 69, 84], [83, 85, 77], [83, 89, 83, 84, 69, 77], [84, 73, 77, 69], [84, 82, 85, 69], [85, 80, 68, 65, 84, 69], [86, 65, 76, 85, 69, 83], [87, 72, 69, 82, 69]]
theorem resv_len : resv.length = 32 := rfl
def okC (c : UInt8) : Bool := (letterF c || digitF c) && (greatF c == c)
/-- Which texts are names. -/
def wordF (s : List UInt8) : Bool := decide (1 ≤ s.length ∧ s.length ≤ 16) && (!digitF (s.headD 0) && (s.all okC && !resv.contains s))

end Go.Proofs.YtbodaffjbcpngaaDoor
namespace Go.Proofs.YtbodaffjbcpngaaDoor
open Go Go.Vx
set_option maxRecDepth 100000

abbrev iRw : Int → List V := fun n => [V.int .i64 n]
/-- A schema, its lists read only. -/
def schV (regs : List Int) (ts : List GTable) : V := .agg [.sl .ro (regs.map iRw), .sl .ro (ts.map GTable.row)]

/-- The regions that have a node, rising. -/
def regF (regs : List Int) : List Int := ([0, 1, 2, 3] : List Int).filter fun r => regs.contains r
def regI (regs : List Int) (i : Nat) : List Int := ((([0, 1, 2, 3] : List Int).drop i).filter fun r => regs.contains r)
theorem regF_len (regs : List Int) : (regF regs).length ≤ 4 := List.length_filter_le _ _

/-- The regions of a table's ranges. -/
def placesF (regs : List Int) (t : GTable) : List Int := if t.place = 1 then [-1] else if t.place = 2 then [t.region] else regF regs
theorem placesF_len (regs : List Int) (t : GTable) : (placesF regs t).length ≤ 4 := by
  have := regF_len regs
  unfold placesF
  split
  · simp
  · split
    · simp
    · exact this
/-- Where the first one is; -1: nowhere. -/
def findF {α : Type} (p : α → Bool) : List α → Nat → Int
  | [], _ => -1
  | x :: l, i => if p x = true then (i : Int) else findF p l (i + 1)
theorem findF_ge {α : Type} (p : α → Bool) : ∀ (l : List α) (i : Nat), findF p l i = -1 ∨ ((i : Int) ≤ findF p l i ∧ findF p l i < i + l.length)
  | [], i => .inl rfl
  | x :: l, i => by
    unfold findF
    split
    · right; simp; omega
    · have := findF_ge p l (i + 1)
      simp only [List.length_cons]
      omega

end Go.Proofs.YtbodaffjbcpngaaDoor
namespace Go.Proofs.YtbodaffjbcpngaaDoor
open Go Go.Vx
set_option maxRecDepth 100000

/-- Why a table's columns may not be, from one on; 0: they may. -/
def colsF (t : GTable) : List GCol → Nat → Int
  | [], _ => 0
  | x :: l, i => if wordF x.name = false then 14 else if findF (fun c : GCol => c.name == x.name) t.cols 0 < (i : Nat) then 14 else if x.kind < 1 ∨ 3 < x.kind then 15 else colsF t l (i + 1)
def col0 : GCol := ⟨[], 0, false⟩
/-- Why a table may not be; 0: it may. -/
def tabF (regs : List Int) (t : GTable) : Int :=
  if t.cols.length < 2 ∨ 6 < t.cols.length then 3
  else if colsF t t.cols 0 ≠ 0 then colsF t t.cols 0
  else if t.place < 0 ∨ 2 < t.place then 1
  else if t.place = 2 ∧ regs.contains t.region = false ∨ t.place ≠ 2 ∧ t.region ≠ 0 then 19
  else if t.key < 0 ∨ (t.cols.length : Int) ≤ t.key ∨ t.place = 0 ∧ t.key = 0 then 1
  else if t.place = 0 ∧ ((t.cols.headD col0).kind ≠ 2 ∨ (t.cols.headD col0).null = true) then 15
  else if (t.cols.getD t.key.toNat col0).null = true then 16
  else 0

end Go.Proofs.YtbodaffjbcpngaaDoor
