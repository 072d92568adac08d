/-
  NARROWER THAN 'FOR EVERY INPUT', by the rows' own cells (each row's printed sentence says how): ExecAny: loops.
  DERIVED. THE GIVEN ROWS OF THIS SEAT. 9 by the template 'for every input the law returns true; each argument reads behind the call as it read before'; 0 by the template 'total and deterministic' (their statements: YtefbicjgbaaieaaGreatTotals.lean).
  GIVEN WITH THE SEED: the statements are not yours to turn. If you find one false, say at which input.
  Laid BY PROGRAM, IN A SANDBOX (cutbox-rows.mjs): the forced cells as the released guide's own fill.sh prints them over the translation 1d3ddce07dc32de3… (all of the seat's roots in one cut). By AI agents, Wed Nov 11 2026. No macro, syntax, notation, axiom, sorry.
-/
import Derived.Test.YtefbicjgbaaieaaGreatChecked
import GoSem.Claim
import GoSem.ClaimJoined
import GoSem.ClaimMapViews
import Derived.JoinedTies
import Derived.KernelRfl
namespace Go.Proofs.YtefbicjgbaaieaaGreat
/- THE CELL 'sum', in the pinned program and in every row, IS THE sha256 OF THE DUMP (.gsa) THAT YtefbicjgbaaieaaGreatProg.lean LOADS. Nothing in Lean hashes anything: it is a label: what it is worth is what the hold of that sum in a sandbox is worth. -/
noncomputable def Tryz.pinned : Pinned := { name := "ytefbicjgbaaieaagreat", sum := "1d3ddce07dc32de3f8d4e032c06c4bda8350f0cd586872a5b31f0ca17a785031", checked := Tryz.checked }
namespace Rows
def none {H : Type} : Left H := { results := [], args := [] }

/-- 'antipodelaw22.ExecStories': WHATEVER THE INPUT: true; the input reads as it did. -/
def execStoriesSpec : ChangeSpec := { name := "execStories", fn := fun _ => fun
  | [d] => { results := [.lit (.bool true)], args := [d] }
  | _ => none }
def execStoriesRow : OpenClaim := { program := "ytefbicjgbaaieaagreat", sum := "1d3ddce07dc32de3f8d4e032c06c4bda8350f0cd586872a5b31f0ca17a785031", func := "antipode/antipodelaw22.ExecStories", spec := "execStories", inPlace := ["internal/bytealg.IndexByteString", "internal/bytealg.IndexString", "internal/bytealg.abigen_runtime_cmpstring", "internal/reflectlite.ValueOf", "internal/reflectlite.Swapper", "(internal/reflectlite.Value).Len"], unfollowed := true, recurses := true, named := ["internal/bytealg.MaxLen"], plainKeys := false, apart := false }
def ExecStoriesSaid : Prop := execStoriesRow.holds Tryz.pinned (OpenSpec.ofChange execStoriesSpec)

/-- ITS FALSE NEIGHBOUR: 'it returns false'. Refute it at one input. -/
def execStoriesWrong : ChangeSpec := { name := "execStories", fn := fun _ => fun
  | [d] => { results := [.lit (.bool false)], args := [d] }
  | _ => none }
def ExecStoriesWrongFalsely : Prop := execStoriesRow.holds Tryz.pinned (OpenSpec.ofChange execStoriesWrong)

/-- 'antipodelaw22.ExecTexts': WHATEVER THE INPUT: true; the input reads as it did. -/
def execTextsSpec : ChangeSpec := { name := "execTexts", fn := fun _ => fun
  | [d1, d2] => { results := [.lit (.bool true)], args := [d1, d2] }
  | _ => none }
def execTextsRow : OpenClaim := { program := "ytefbicjgbaaieaagreat", sum := "1d3ddce07dc32de3f8d4e032c06c4bda8350f0cd586872a5b31f0ca17a785031", func := "antipode/antipodelaw22.ExecTexts", spec := "execTexts", inPlace := ["internal/bytealg.IndexByteString", "internal/bytealg.IndexString", "internal/bytealg.abigen_runtime_cmpstring", "internal/reflectlite.ValueOf", "internal/reflectlite.Swapper", "(internal/reflectlite.Value).Len"], unfollowed := true, recurses := true, named := ["internal/bytealg.MaxLen"], plainKeys := false, apart := false }
def ExecTextsSaid : Prop := execTextsRow.holds Tryz.pinned (OpenSpec.ofChange execTextsSpec)

/-- ITS FALSE NEIGHBOUR: 'it returns false'. Refute it at one input. -/
def execTextsWrong : ChangeSpec := { name := "execTexts", fn := fun _ => fun
  | [d1, d2] => { results := [.lit (.bool false)], args := [d1, d2] }
  | _ => none }
def ExecTextsWrongFalsely : Prop := execTextsRow.holds Tryz.pinned (OpenSpec.ofChange execTextsWrong)

/-- 'antipodelaw22.ExecAny': WHATEVER THE INPUT: true; the input reads as it did. -/
def execAnySpec : ChangeSpec := { name := "execAny", fn := fun _ => fun
  | [d1, d2] => { results := [.lit (.bool true)], args := [d1, d2] }
  | _ => none }
def execAnyRow : OpenClaim := { program := "ytefbicjgbaaieaagreat", sum := "1d3ddce07dc32de3f8d4e032c06c4bda8350f0cd586872a5b31f0ca17a785031", func := "antipode/antipodelaw22.ExecAny", spec := "execAny", inPlace := ["internal/bytealg.IndexByteString", "internal/bytealg.IndexString", "internal/bytealg.abigen_runtime_cmpstring", "internal/reflectlite.ValueOf", "internal/reflectlite.Swapper", "(internal/reflectlite.Value).Len"], unfollowed := true, recurses := true, named := ["internal/bytealg.MaxLen"], loops := true, plainKeys := false, apart := false }
def ExecAnySaid : Prop := execAnyRow.holds Tryz.pinned (OpenSpec.ofChange execAnySpec)

/-- ITS FALSE NEIGHBOUR: 'it returns false'. Refute it at one input. -/
def execAnyWrong : ChangeSpec := { name := "execAny", fn := fun _ => fun
  | [d1, d2] => { results := [.lit (.bool false)], args := [d1, d2] }
  | _ => none }
def ExecAnyWrongFalsely : Prop := execAnyRow.holds Tryz.pinned (OpenSpec.ofChange execAnyWrong)

/-- 'antipodelaw22.ExecTwo': WHATEVER THE INPUT: true; the input reads as it did. -/
def execTwoSpec : ChangeSpec := { name := "execTwo", fn := fun _ => fun
  | [d1, d2, d3] => { results := [.lit (.bool true)], args := [d1, d2, d3] }
  | _ => none }
def execTwoRow : OpenClaim := { program := "ytefbicjgbaaieaagreat", sum := "1d3ddce07dc32de3f8d4e032c06c4bda8350f0cd586872a5b31f0ca17a785031", func := "antipode/antipodelaw22.ExecTwo", spec := "execTwo", inPlace := ["internal/bytealg.IndexByteString", "internal/bytealg.IndexString", "internal/bytealg.abigen_runtime_cmpstring", "internal/reflectlite.ValueOf", "internal/reflectlite.Swapper", "(internal/reflectlite.Value).Len"], unfollowed := true, recurses := true, named := ["internal/bytealg.MaxLen"], plainKeys := false, apart := false }
def ExecTwoSaid : Prop := execTwoRow.holds Tryz.pinned (OpenSpec.ofChange execTwoSpec)

/-- ITS FALSE NEIGHBOUR: 'it returns false'. Refute it at one input. -/
def execTwoWrong : ChangeSpec := { name := "execTwo", fn := fun _ => fun
  | [d1, d2, d3] => { results := [.lit (.bool false)], args := [d1, d2, d3] }
  | _ => none }
def ExecTwoWrongFalsely : Prop := execTwoRow.holds Tryz.pinned (OpenSpec.ofChange execTwoWrong)

/-- 'antipodelaw22.ExecReads': WHATEVER THE INPUT: true; the input reads as it did. -/
def execReadsSpec : ChangeSpec := { name := "execReads", fn := fun _ => fun
  | [d1, d2] => { results := [.lit (.bool true)], args := [d1, d2] }
  | _ => none }
def execReadsRow : OpenClaim := { program := "ytefbicjgbaaieaagreat", sum := "1d3ddce07dc32de3f8d4e032c06c4bda8350f0cd586872a5b31f0ca17a785031", func := "antipode/antipodelaw22.ExecReads", spec := "execReads", inPlace := ["internal/bytealg.IndexByteString", "internal/bytealg.IndexString", "internal/bytealg.abigen_runtime_cmpstring", "internal/reflectlite.ValueOf", "internal/reflectlite.Swapper", "(internal/reflectlite.Value).Len"], unfollowed := true, recurses := true, named := ["internal/bytealg.MaxLen"], plainKeys := false, apart := false }
def ExecReadsSaid : Prop := execReadsRow.holds Tryz.pinned (OpenSpec.ofChange execReadsSpec)

/-- ITS FALSE NEIGHBOUR: 'it returns false'. Refute it at one input. -/
def execReadsWrong : ChangeSpec := { name := "execReads", fn := fun _ => fun
  | [d1, d2] => { results := [.lit (.bool false)], args := [d1, d2] }
  | _ => none }
def ExecReadsWrongFalsely : Prop := execReadsRow.holds Tryz.pinned (OpenSpec.ofChange execReadsWrong)

/-- 'antipodelaw22.ExecOrders': WHATEVER THE INPUT: true; the input reads as it did. -/
def execOrdersSpec : ChangeSpec := { name := "execOrders", fn := fun _ => fun
  | [d1, d2, d3] => { results := [.lit (.bool true)], args := [d1, d2, d3] }
  | _ => none }
def execOrdersRow : OpenClaim := { program := "ytefbicjgbaaieaagreat", sum := "1d3ddce07dc32de3f8d4e032c06c4bda8350f0cd586872a5b31f0ca17a785031", func := "antipode/antipodelaw22.ExecOrders", spec := "execOrders", inPlace := ["internal/bytealg.IndexByteString", "internal/bytealg.IndexString", "internal/bytealg.abigen_runtime_cmpstring", "internal/reflectlite.ValueOf", "internal/reflectlite.Swapper", "(internal/reflectlite.Value).Len"], unfollowed := true, recurses := true, named := ["internal/bytealg.MaxLen"], plainKeys := false, apart := false }
def ExecOrdersSaid : Prop := execOrdersRow.holds Tryz.pinned (OpenSpec.ofChange execOrdersSpec)

/-- ITS FALSE NEIGHBOUR: 'it returns false'. Refute it at one input. -/
def execOrdersWrong : ChangeSpec := { name := "execOrders", fn := fun _ => fun
  | [d1, d2, d3] => { results := [.lit (.bool false)], args := [d1, d2, d3] }
  | _ => none }
def ExecOrdersWrongFalsely : Prop := execOrdersRow.holds Tryz.pinned (OpenSpec.ofChange execOrdersWrong)

/-- 'antipodelaw22.ExecCounts': WHATEVER THE INPUT: true; the input reads as it did. -/
def execCountsSpec : ChangeSpec := { name := "execCounts", fn := fun _ => fun
  | [d1, d2, d3] => { results := [.lit (.bool true)], args := [d1, d2, d3] }
  | _ => none }
def execCountsRow : OpenClaim := { program := "ytefbicjgbaaieaagreat", sum := "1d3ddce07dc32de3f8d4e032c06c4bda8350f0cd586872a5b31f0ca17a785031", func := "antipode/antipodelaw22.ExecCounts", spec := "execCounts", inPlace := ["internal/bytealg.IndexByteString", "internal/bytealg.IndexString", "internal/bytealg.abigen_runtime_cmpstring", "internal/reflectlite.ValueOf", "internal/reflectlite.Swapper", "(internal/reflectlite.Value).Len"], unfollowed := true, recurses := true, named := ["internal/bytealg.MaxLen"], plainKeys := false, apart := false }
def ExecCountsSaid : Prop := execCountsRow.holds Tryz.pinned (OpenSpec.ofChange execCountsSpec)

/-- ITS FALSE NEIGHBOUR: 'it returns false'. Refute it at one input. -/
def execCountsWrong : ChangeSpec := { name := "execCounts", fn := fun _ => fun
  | [d1, d2, d3] => { results := [.lit (.bool false)], args := [d1, d2, d3] }
  | _ => none }
def ExecCountsWrongFalsely : Prop := execCountsRow.holds Tryz.pinned (OpenSpec.ofChange execCountsWrong)

/-- 'antipodelaw22.ExecParts': WHATEVER THE INPUT: true; the input reads as it did. -/
def execPartsSpec : ChangeSpec := { name := "execParts", fn := fun _ => fun
  | [d1, d2, d3] => { results := [.lit (.bool true)], args := [d1, d2, d3] }
  | _ => none }
def execPartsRow : OpenClaim := { program := "ytefbicjgbaaieaagreat", sum := "1d3ddce07dc32de3f8d4e032c06c4bda8350f0cd586872a5b31f0ca17a785031", func := "antipode/antipodelaw22.ExecParts", spec := "execParts", inPlace := ["internal/bytealg.IndexByteString", "internal/bytealg.IndexString", "internal/bytealg.abigen_runtime_cmpstring", "internal/reflectlite.ValueOf", "internal/reflectlite.Swapper", "(internal/reflectlite.Value).Len"], unfollowed := true, recurses := true, named := ["internal/bytealg.MaxLen"], plainKeys := false, apart := false }
def ExecPartsSaid : Prop := execPartsRow.holds Tryz.pinned (OpenSpec.ofChange execPartsSpec)

/-- ITS FALSE NEIGHBOUR: 'it returns false'. Refute it at one input. -/
def execPartsWrong : ChangeSpec := { name := "execParts", fn := fun _ => fun
  | [d1, d2, d3] => { results := [.lit (.bool false)], args := [d1, d2, d3] }
  | _ => none }
def ExecPartsWrongFalsely : Prop := execPartsRow.holds Tryz.pinned (OpenSpec.ofChange execPartsWrong)

/-- 'antipodelaw22.ExecNeeds': WHATEVER THE INPUT: true; the input reads as it did. -/
def execNeedsSpec : ChangeSpec := { name := "execNeeds", fn := fun _ => fun
  | [d1, d2] => { results := [.lit (.bool true)], args := [d1, d2] }
  | _ => none }
def execNeedsRow : OpenClaim := { program := "ytefbicjgbaaieaagreat", sum := "1d3ddce07dc32de3f8d4e032c06c4bda8350f0cd586872a5b31f0ca17a785031", func := "antipode/antipodelaw22.ExecNeeds", spec := "execNeeds", inPlace := ["internal/bytealg.IndexByteString", "internal/bytealg.IndexString", "internal/bytealg.abigen_runtime_cmpstring", "internal/reflectlite.ValueOf", "internal/reflectlite.Swapper", "(internal/reflectlite.Value).Len", "slices.overlaps[antipode/plan.Need]"], unfollowed := true, recurses := true, named := ["internal/bytealg.MaxLen"], plainKeys := false, apart := false }
def ExecNeedsSaid : Prop := execNeedsRow.holds Tryz.pinned (OpenSpec.ofChange execNeedsSpec)

/-- ITS FALSE NEIGHBOUR: 'it returns false'. Refute it at one input. -/
def execNeedsWrong : ChangeSpec := { name := "execNeeds", fn := fun _ => fun
  | [d1, d2] => { results := [.lit (.bool false)], args := [d1, d2] }
  | _ => none }
def ExecNeedsWrongFalsely : Prop := execNeedsRow.holds Tryz.pinned (OpenSpec.ofChange execNeedsWrong)

/- THE SECOND FORM. 'bulk': how many values and letters a reading holds, each counted each time it is reached (what is shared counts as often as it is met; a slice's spare places count too). A statement '..UptoSaid' is the law's where the arguments, and the package variables that the reading takes, are together of bulk at most 1048576: NARROWER than '..Said'. Prove '..Said' where nothing that the law and all that it calls make is longer than what came in: it says more and counts as full. Else prove '..UptoSaid'. A law counts once. -/
mutual
def uptoBulk {H : Type} : DataW H → Nat
  | .lit (.string bytes) => bytes.length + 1
  | .lit _ => 1
  | .nil => 1
  | .ptr d => uptoBulk d + 1
  | .slice elems spare => uptoBulkAll elems + uptoBulkAll spare + 1
  | .agg parts => uptoBulkAll parts + 1
  | .iface _ d => uptoBulk d + 1
  | .map entries => uptoBulkEntries entries + 1
  | .held _ => 1
def uptoBulkAll {H : Type} : List (DataW H) → Nat
  | [] => 0
  | d :: r => uptoBulk d + uptoBulkAll r
def uptoBulkEntries {H : Type} : List (Lit × DataW H) → Nat
  | [] => 0
  | x :: r => uptoBulkEntry x + uptoBulkEntries r
def uptoBulkEntry {H : Type} : Lit × DataW H → Nat
  | (.string bytes, d) => bytes.length + uptoBulk d + 1
  | (_, d) => uptoBulk d + 1
 end
def uptoSmall : (H : Type) → List (DataW H) → Bool := fun _ ds => decide (uptoBulkAll ds ≤ 1048576)
def OpenSpec.upto (s : _root_.Go.ChangeSpec) : _root_.Go.OpenSpec := { _root_.Go.OpenSpec.ofChange s with cond := some uptoSmall }

/-- 'antipodelaw22.ExecStories', WHERE WHAT IT READS IS OF BULK AT MOST 1048576: true; the input reads as it did. -/
def execStoriesUptoRow : OpenClaim := { program := "ytefbicjgbaaieaagreat", sum := "1d3ddce07dc32de3f8d4e032c06c4bda8350f0cd586872a5b31f0ca17a785031", func := "antipode/antipodelaw22.ExecStories", spec := "execStories", inPlace := ["internal/bytealg.IndexByteString", "internal/bytealg.IndexString", "internal/bytealg.abigen_runtime_cmpstring", "internal/reflectlite.ValueOf", "internal/reflectlite.Swapper", "(internal/reflectlite.Value).Len"], unfollowed := true, recurses := true, named := ["internal/bytealg.MaxLen"], plainKeys := false, apart := false, narrowed := true }
def ExecStoriesUptoSaid : Prop := execStoriesUptoRow.holds Tryz.pinned (OpenSpec.upto execStoriesSpec)

/-- 'antipodelaw22.ExecTexts', WHERE WHAT IT READS IS OF BULK AT MOST 1048576: true; the input reads as it did. -/
def execTextsUptoRow : OpenClaim := { program := "ytefbicjgbaaieaagreat", sum := "1d3ddce07dc32de3f8d4e032c06c4bda8350f0cd586872a5b31f0ca17a785031", func := "antipode/antipodelaw22.ExecTexts", spec := "execTexts", inPlace := ["internal/bytealg.IndexByteString", "internal/bytealg.IndexString", "internal/bytealg.abigen_runtime_cmpstring", "internal/reflectlite.ValueOf", "internal/reflectlite.Swapper", "(internal/reflectlite.Value).Len"], unfollowed := true, recurses := true, named := ["internal/bytealg.MaxLen"], plainKeys := false, apart := false, narrowed := true }
def ExecTextsUptoSaid : Prop := execTextsUptoRow.holds Tryz.pinned (OpenSpec.upto execTextsSpec)

/-- 'antipodelaw22.ExecAny', WHERE WHAT IT READS IS OF BULK AT MOST 1048576: true; the input reads as it did. -/
def execAnyUptoRow : OpenClaim := { program := "ytefbicjgbaaieaagreat", sum := "1d3ddce07dc32de3f8d4e032c06c4bda8350f0cd586872a5b31f0ca17a785031", func := "antipode/antipodelaw22.ExecAny", spec := "execAny", inPlace := ["internal/bytealg.IndexByteString", "internal/bytealg.IndexString", "internal/bytealg.abigen_runtime_cmpstring", "internal/reflectlite.ValueOf", "internal/reflectlite.Swapper", "(internal/reflectlite.Value).Len"], unfollowed := true, recurses := true, named := ["internal/bytealg.MaxLen"], loops := true, plainKeys := false, apart := false, narrowed := true }
def ExecAnyUptoSaid : Prop := execAnyUptoRow.holds Tryz.pinned (OpenSpec.upto execAnySpec)

/-- 'antipodelaw22.ExecTwo', WHERE WHAT IT READS IS OF BULK AT MOST 1048576: true; the input reads as it did. -/
def execTwoUptoRow : OpenClaim := { program := "ytefbicjgbaaieaagreat", sum := "1d3ddce07dc32de3f8d4e032c06c4bda8350f0cd586872a5b31f0ca17a785031", func := "antipode/antipodelaw22.ExecTwo", spec := "execTwo", inPlace := ["internal/bytealg.IndexByteString", "internal/bytealg.IndexString", "internal/bytealg.abigen_runtime_cmpstring", "internal/reflectlite.ValueOf", "internal/reflectlite.Swapper", "(internal/reflectlite.Value).Len"], unfollowed := true, recurses := true, named := ["internal/bytealg.MaxLen"], plainKeys := false, apart := false, narrowed := true }
def ExecTwoUptoSaid : Prop := execTwoUptoRow.holds Tryz.pinned (OpenSpec.upto execTwoSpec)

/-- 'antipodelaw22.ExecReads', WHERE WHAT IT READS IS OF BULK AT MOST 1048576: true; the input reads as it did. -/
def execReadsUptoRow : OpenClaim := { program := "ytefbicjgbaaieaagreat", sum := "1d3ddce07dc32de3f8d4e032c06c4bda8350f0cd586872a5b31f0ca17a785031", func := "antipode/antipodelaw22.ExecReads", spec := "execReads", inPlace := ["internal/bytealg.IndexByteString", "internal/bytealg.IndexString", "internal/bytealg.abigen_runtime_cmpstring", "internal/reflectlite.ValueOf", "internal/reflectlite.Swapper", "(internal/reflectlite.Value).Len"], unfollowed := true, recurses := true, named := ["internal/bytealg.MaxLen"], plainKeys := false, apart := false, narrowed := true }
def ExecReadsUptoSaid : Prop := execReadsUptoRow.holds Tryz.pinned (OpenSpec.upto execReadsSpec)

/-- 'antipodelaw22.ExecOrders', WHERE WHAT IT READS IS OF BULK AT MOST 1048576: true; the input reads as it did. -/
def execOrdersUptoRow : OpenClaim := { program := "ytefbicjgbaaieaagreat", sum := "1d3ddce07dc32de3f8d4e032c06c4bda8350f0cd586872a5b31f0ca17a785031", func := "antipode/antipodelaw22.ExecOrders", spec := "execOrders", inPlace := ["internal/bytealg.IndexByteString", "internal/bytealg.IndexString", "internal/bytealg.abigen_runtime_cmpstring", "internal/reflectlite.ValueOf", "internal/reflectlite.Swapper", "(internal/reflectlite.Value).Len"], unfollowed := true, recurses := true, named := ["internal/bytealg.MaxLen"], plainKeys := false, apart := false, narrowed := true }
def ExecOrdersUptoSaid : Prop := execOrdersUptoRow.holds Tryz.pinned (OpenSpec.upto execOrdersSpec)

/-- 'antipodelaw22.ExecCounts', WHERE WHAT IT READS IS OF BULK AT MOST 1048576: true; the input reads as it did. -/
def execCountsUptoRow : OpenClaim := { program := "ytefbicjgbaaieaagreat", sum := "1d3ddce07dc32de3f8d4e032c06c4bda8350f0cd586872a5b31f0ca17a785031", func := "antipode/antipodelaw22.ExecCounts", spec := "execCounts", inPlace := ["internal/bytealg.IndexByteString", "internal/bytealg.IndexString", "internal/bytealg.abigen_runtime_cmpstring", "internal/reflectlite.ValueOf", "internal/reflectlite.Swapper", "(internal/reflectlite.Value).Len"], unfollowed := true, recurses := true, named := ["internal/bytealg.MaxLen"], plainKeys := false, apart := false, narrowed := true }
def ExecCountsUptoSaid : Prop := execCountsUptoRow.holds Tryz.pinned (OpenSpec.upto execCountsSpec)

/-- 'antipodelaw22.ExecParts', WHERE WHAT IT READS IS OF BULK AT MOST 1048576: true; the input reads as it did. -/
def execPartsUptoRow : OpenClaim := { program := "ytefbicjgbaaieaagreat", sum := "1d3ddce07dc32de3f8d4e032c06c4bda8350f0cd586872a5b31f0ca17a785031", func := "antipode/antipodelaw22.ExecParts", spec := "execParts", inPlace := ["internal/bytealg.IndexByteString", "internal/bytealg.IndexString", "internal/bytealg.abigen_runtime_cmpstring", "internal/reflectlite.ValueOf", "internal/reflectlite.Swapper", "(internal/reflectlite.Value).Len"], unfollowed := true, recurses := true, named := ["internal/bytealg.MaxLen"], plainKeys := false, apart := false, narrowed := true }
def ExecPartsUptoSaid : Prop := execPartsUptoRow.holds Tryz.pinned (OpenSpec.upto execPartsSpec)

/-- 'antipodelaw22.ExecNeeds', WHERE WHAT IT READS IS OF BULK AT MOST 1048576: true; the input reads as it did. -/
def execNeedsUptoRow : OpenClaim := { program := "ytefbicjgbaaieaagreat", sum := "1d3ddce07dc32de3f8d4e032c06c4bda8350f0cd586872a5b31f0ca17a785031", func := "antipode/antipodelaw22.ExecNeeds", spec := "execNeeds", inPlace := ["internal/bytealg.IndexByteString", "internal/bytealg.IndexString", "internal/bytealg.abigen_runtime_cmpstring", "internal/reflectlite.ValueOf", "internal/reflectlite.Swapper", "(internal/reflectlite.Value).Len", "slices.overlaps[antipode/plan.Need]"], unfollowed := true, recurses := true, named := ["internal/bytealg.MaxLen"], plainKeys := false, apart := false, narrowed := true }
def ExecNeedsUptoSaid : Prop := execNeedsUptoRow.holds Tryz.pinned (OpenSpec.upto execNeedsSpec)

end Rows
end Go.Proofs.YtefbicjgbaaieaaGreat
