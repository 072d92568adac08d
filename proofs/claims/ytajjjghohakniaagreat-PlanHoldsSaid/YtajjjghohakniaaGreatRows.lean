/-
  NARROWER THAN 'FOR EVERY INPUT', by the rows' own cells (each row's printed sentence says how): PlanLots: loops.
  DERIVED. THE GIVEN ROWS OF THIS SEAT. 5 by the template 'for every input the law returns true; each argument reads behind the call as it read before'; 0 by the template 'total and deterministic' (their statements: YtajjjghohakniaaGreatTotals.lean).
  GIVEN WITH THE SEED: the statements are not yours to turn. If you find one false, say at which input.
  Laid BY PROGRAM, IN A SANDBOX (cutbox-rows.mjs): the forced cells as the released guide's own fill.sh prints them over the translation a1316d6ff49347ce… (all of the seat's roots in one cut). By AI agents, Wed Nov 11 2026. No macro, syntax, notation, axiom, sorry.
-/
import Derived.Test.YtajjjghohakniaaGreatChecked
import GoSem.Claim
import GoSem.ClaimJoined
import GoSem.ClaimMapViews
import Derived.JoinedTies
import Derived.KernelRfl
namespace Go.Proofs.YtajjjghohakniaaGreat
/- THE CELL 'sum', in the pinned program and in every row, IS THE sha256 OF THE DUMP (.gsa) THAT YtajjjghohakniaaGreatProg.lean LOADS. Nothing in Lean hashes anything: it is a label: what it is worth is what the hold of that sum in a sandbox is worth. -/
noncomputable def Tryz.pinned : Pinned := { name := "ytajjjghohakniaagreat", sum := "a1316d6ff49347cefda6e13f24ef23717d64f75fe0573c7c9d5597e773ae4df1", checked := Tryz.checked }
namespace Rows
def none {H : Type} : Left H := { results := [], args := [] }

/-- 'antipodelaw21.PlanTexts': WHATEVER THE INPUT: true; the input reads as it did. -/
def planTextsSpec : ChangeSpec := { name := "planTexts", fn := fun _ => fun
  | [d] => { results := [.lit (.bool true)], args := [d] }
  | _ => none }
def planTextsRow : OpenClaim := { program := "ytajjjghohakniaagreat", sum := "a1316d6ff49347cefda6e13f24ef23717d64f75fe0573c7c9d5597e773ae4df1", func := "antipode/antipodelaw21.PlanTexts", spec := "planTexts", inPlace := ["internal/bytealg.IndexByteString", "internal/bytealg.IndexString", "internal/bytealg.abigen_runtime_cmpstring", "slices.overlaps[antipode/plan.Need]"], unfollowed := true, recurses := true, named := ["internal/bytealg.MaxLen"], apart := false }
def PlanTextsSaid : Prop := planTextsRow.holds Tryz.pinned (OpenSpec.ofChange planTextsSpec)

/-- ITS FALSE NEIGHBOUR: 'it returns false'. Refute it at one input. -/
def planTextsWrong : ChangeSpec := { name := "planTexts", fn := fun _ => fun
  | [d] => { results := [.lit (.bool false)], args := [d] }
  | _ => none }
def PlanTextsWrongFalsely : Prop := planTextsRow.holds Tryz.pinned (OpenSpec.ofChange planTextsWrong)

/-- 'antipodelaw21.PlanLots': WHATEVER THE INPUT: true; the input reads as it did. -/
def planLotsSpec : ChangeSpec := { name := "planLots", fn := fun _ => fun
  | [d] => { results := [.lit (.bool true)], args := [d] }
  | _ => none }
def planLotsRow : OpenClaim := { program := "ytajjjghohakniaagreat", sum := "a1316d6ff49347cefda6e13f24ef23717d64f75fe0573c7c9d5597e773ae4df1", func := "antipode/antipodelaw21.PlanLots", spec := "planLots", inPlace := ["internal/bytealg.IndexByteString", "internal/bytealg.IndexString", "internal/bytealg.abigen_runtime_cmpstring", "slices.overlaps[antipode/plan.Need]"], unfollowed := true, recurses := true, named := ["internal/bytealg.MaxLen"], loops := true, apart := false }
def PlanLotsSaid : Prop := planLotsRow.holds Tryz.pinned (OpenSpec.ofChange planLotsSpec)

/-- ITS FALSE NEIGHBOUR: 'it returns false'. Refute it at one input. -/
def planLotsWrong : ChangeSpec := { name := "planLots", fn := fun _ => fun
  | [d] => { results := [.lit (.bool false)], args := [d] }
  | _ => none }
def PlanLotsWrongFalsely : Prop := planLotsRow.holds Tryz.pinned (OpenSpec.ofChange planLotsWrong)

/-- 'antipodelaw21.PlanHolds': WHATEVER THE INPUT: true; the input reads as it did. -/
def planHoldsSpec : ChangeSpec := { name := "planHolds", fn := fun _ => fun
  | [d1, d2] => { results := [.lit (.bool true)], args := [d1, d2] }
  | _ => none }
def planHoldsRow : OpenClaim := { program := "ytajjjghohakniaagreat", sum := "a1316d6ff49347cefda6e13f24ef23717d64f75fe0573c7c9d5597e773ae4df1", func := "antipode/antipodelaw21.PlanHolds", spec := "planHolds", inPlace := ["internal/bytealg.IndexByteString", "internal/bytealg.IndexString", "internal/bytealg.abigen_runtime_cmpstring", "slices.overlaps[antipode/plan.Need]"], unfollowed := true, recurses := true, named := ["internal/bytealg.MaxLen"], apart := false }
def PlanHoldsSaid : Prop := planHoldsRow.holds Tryz.pinned (OpenSpec.ofChange planHoldsSpec)

/-- ITS FALSE NEIGHBOUR: 'it returns false'. Refute it at one input. -/
def planHoldsWrong : ChangeSpec := { name := "planHolds", fn := fun _ => fun
  | [d1, d2] => { results := [.lit (.bool false)], args := [d1, d2] }
  | _ => none }
def PlanHoldsWrongFalsely : Prop := planHoldsRow.holds Tryz.pinned (OpenSpec.ofChange planHoldsWrong)

/-- 'antipodelaw21.PlanNarrow': WHATEVER THE INPUT: true; the input reads as it did. -/
def planNarrowSpec : ChangeSpec := { name := "planNarrow", fn := fun _ => fun
  | [d1, d2, d3, d4, d5] => { results := [.lit (.bool true)], args := [d1, d2, d3, d4, d5] }
  | _ => none }
def planNarrowRow : OpenClaim := { program := "ytajjjghohakniaagreat", sum := "a1316d6ff49347cefda6e13f24ef23717d64f75fe0573c7c9d5597e773ae4df1", func := "antipode/antipodelaw21.PlanNarrow", spec := "planNarrow", inPlace := ["internal/bytealg.IndexByteString", "internal/bytealg.IndexString", "internal/bytealg.abigen_runtime_cmpstring", "slices.overlaps[antipode/plan.Need]"], unfollowed := true, recurses := true, named := ["internal/bytealg.MaxLen"], apart := false }
def PlanNarrowSaid : Prop := planNarrowRow.holds Tryz.pinned (OpenSpec.ofChange planNarrowSpec)

/-- ITS FALSE NEIGHBOUR: 'it returns false'. Refute it at one input. -/
def planNarrowWrong : ChangeSpec := { name := "planNarrow", fn := fun _ => fun
  | [d1, d2, d3, d4, d5] => { results := [.lit (.bool false)], args := [d1, d2, d3, d4, d5] }
  | _ => none }
def PlanNarrowWrongFalsely : Prop := planNarrowRow.holds Tryz.pinned (OpenSpec.ofChange planNarrowWrong)

/-- 'antipodelaw21.PlanOnce': WHATEVER THE INPUT: true; the input reads as it did. -/
def planOnceSpec : ChangeSpec := { name := "planOnce", fn := fun _ => fun
  | [d] => { results := [.lit (.bool true)], args := [d] }
  | _ => none }
def planOnceRow : OpenClaim := { program := "ytajjjghohakniaagreat", sum := "a1316d6ff49347cefda6e13f24ef23717d64f75fe0573c7c9d5597e773ae4df1", func := "antipode/antipodelaw21.PlanOnce", spec := "planOnce", inPlace := ["internal/bytealg.IndexByteString", "internal/bytealg.IndexString", "internal/bytealg.abigen_runtime_cmpstring", "slices.overlaps[antipode/plan.Need]"], unfollowed := true, recurses := true, named := ["internal/bytealg.MaxLen"], apart := false }
def PlanOnceSaid : Prop := planOnceRow.holds Tryz.pinned (OpenSpec.ofChange planOnceSpec)

/-- ITS FALSE NEIGHBOUR: 'it returns false'. Refute it at one input. -/
def planOnceWrong : ChangeSpec := { name := "planOnce", fn := fun _ => fun
  | [d] => { results := [.lit (.bool false)], args := [d] }
  | _ => none }
def PlanOnceWrongFalsely : Prop := planOnceRow.holds Tryz.pinned (OpenSpec.ofChange planOnceWrong)

/- THE SECOND FORM. 'bulk': how many values and letters a reading holds, each counted each time it is reached (what is shared counts as often as it is met; a slice's spare places count too). A statement '..UptoSaid' is the law's where the arguments, and the package variables that the reading takes, are together of bulk at most 1048576: NARROWER than '..Said'. Prove '..Said' where nothing that the law and all that it calls make is longer than what came in: it says more and counts as full. Else prove '..UptoSaid'. A law counts once. -/
mutual
def uptoBulk {H : Type} : DataW H → Nat
  | .lit (.string bytes) => bytes.length + 1
  | .lit _ => 1
  | .nil => 1
  | .ptr d => uptoBulk d + 1
  | .slice elems spare => uptoBulkAll elems + uptoBulkAll spare + 1
  | .agg parts => uptoBulkAll parts + 1
  | .iface _ d => uptoBulk d + 1
  | .map entries => uptoBulkEntries entries + 1
  | .held _ => 1
def uptoBulkAll {H : Type} : List (DataW H) → Nat
  | [] => 0
  | d :: r => uptoBulk d + uptoBulkAll r
def uptoBulkEntries {H : Type} : List (Lit × DataW H) → Nat
  | [] => 0
  | x :: r => uptoBulkEntry x + uptoBulkEntries r
def uptoBulkEntry {H : Type} : Lit × DataW H → Nat
  | (.string bytes, d) => bytes.length + uptoBulk d + 1
  | (_, d) => uptoBulk d + 1
 end
def uptoSmall : (H : Type) → List (DataW H) → Bool := fun _ ds => decide (uptoBulkAll ds ≤ 1048576)
def OpenSpec.upto (s : _root_.Go.ChangeSpec) : _root_.Go.OpenSpec := { _root_.Go.OpenSpec.ofChange s with cond := some uptoSmall }

/-- 'antipodelaw21.PlanTexts', WHERE WHAT IT READS IS OF BULK AT MOST 1048576: true; the input reads as it did. -/
def planTextsUptoRow : OpenClaim := { program := "ytajjjghohakniaagreat", sum := "a1316d6ff49347cefda6e13f24ef23717d64f75fe0573c7c9d5597e773ae4df1", func := "antipode/antipodelaw21.PlanTexts", spec := "planTexts", inPlace := ["internal/bytealg.IndexByteString", "internal/bytealg.IndexString", "internal/bytealg.abigen_runtime_cmpstring", "slices.overlaps[antipode/plan.Need]"], unfollowed := true, recurses := true, named := ["internal/bytealg.MaxLen"], apart := false, narrowed := true }
def PlanTextsUptoSaid : Prop := planTextsUptoRow.holds Tryz.pinned (OpenSpec.upto planTextsSpec)

/-- 'antipodelaw21.PlanLots', WHERE WHAT IT READS IS OF BULK AT MOST 1048576: true; the input reads as it did. -/
def planLotsUptoRow : OpenClaim := { program := "ytajjjghohakniaagreat", sum := "a1316d6ff49347cefda6e13f24ef23717d64f75fe0573c7c9d5597e773ae4df1", func := "antipode/antipodelaw21.PlanLots", spec := "planLots", inPlace := ["internal/bytealg.IndexByteString", "internal/bytealg.IndexString", "internal/bytealg.abigen_runtime_cmpstring", "slices.overlaps[antipode/plan.Need]"], unfollowed := true, recurses := true, named := ["internal/bytealg.MaxLen"], loops := true, apart := false, narrowed := true }
def PlanLotsUptoSaid : Prop := planLotsUptoRow.holds Tryz.pinned (OpenSpec.upto planLotsSpec)

/-- 'antipodelaw21.PlanHolds', WHERE WHAT IT READS IS OF BULK AT MOST 1048576: true; the input reads as it did. -/
def planHoldsUptoRow : OpenClaim := { program := "ytajjjghohakniaagreat", sum := "a1316d6ff49347cefda6e13f24ef23717d64f75fe0573c7c9d5597e773ae4df1", func := "antipode/antipodelaw21.PlanHolds", spec := "planHolds", inPlace := ["internal/bytealg.IndexByteString", "internal/bytealg.IndexString", "internal/bytealg.abigen_runtime_cmpstring", "slices.overlaps[antipode/plan.Need]"], unfollowed := true, recurses := true, named := ["internal/bytealg.MaxLen"], apart := false, narrowed := true }
def PlanHoldsUptoSaid : Prop := planHoldsUptoRow.holds Tryz.pinned (OpenSpec.upto planHoldsSpec)

/-- 'antipodelaw21.PlanNarrow', WHERE WHAT IT READS IS OF BULK AT MOST 1048576: true; the input reads as it did. -/
def planNarrowUptoRow : OpenClaim := { program := "ytajjjghohakniaagreat", sum := "a1316d6ff49347cefda6e13f24ef23717d64f75fe0573c7c9d5597e773ae4df1", func := "antipode/antipodelaw21.PlanNarrow", spec := "planNarrow", inPlace := ["internal/bytealg.IndexByteString", "internal/bytealg.IndexString", "internal/bytealg.abigen_runtime_cmpstring", "slices.overlaps[antipode/plan.Need]"], unfollowed := true, recurses := true, named := ["internal/bytealg.MaxLen"], apart := false, narrowed := true }
def PlanNarrowUptoSaid : Prop := planNarrowUptoRow.holds Tryz.pinned (OpenSpec.upto planNarrowSpec)

/-- 'antipodelaw21.PlanOnce', WHERE WHAT IT READS IS OF BULK AT MOST 1048576: true; the input reads as it did. -/
def planOnceUptoRow : OpenClaim := { program := "ytajjjghohakniaagreat", sum := "a1316d6ff49347cefda6e13f24ef23717d64f75fe0573c7c9d5597e773ae4df1", func := "antipode/antipodelaw21.PlanOnce", spec := "planOnce", inPlace := ["internal/bytealg.IndexByteString", "internal/bytealg.IndexString", "internal/bytealg.abigen_runtime_cmpstring", "slices.overlaps[antipode/plan.Need]"], unfollowed := true, recurses := true, named := ["internal/bytealg.MaxLen"], apart := false, narrowed := true }
def PlanOnceUptoSaid : Prop := planOnceUptoRow.holds Tryz.pinned (OpenSpec.upto planOnceSpec)

end Rows
end Go.Proofs.YtajjjghohakniaaGreat
