/-
  No cell of these rows narrows 'for every input' (looked for: loops, veiled, ifaces, maps, wideKeys, modest, calm, conditions, laid).
  DERIVED. THE GIVEN ROWS OF THIS SEAT. 3 by the template 'for every input the law returns true; each argument reads behind the call as it read before'; 0 by the template 'total and deterministic' (their statements: YtplackkccmeioaaGreatTotals.lean).
  GIVEN WITH THE SEED: the statements are not yours to turn. If you find one false, say at which input.
  Laid BY PROGRAM, IN A SANDBOX (cutbox-rows.mjs): the forced cells as the released guide's own fill.sh prints them over the translation b5605491ee86b2b4… (all of the seat's roots in one cut). By AI agents, Wed Nov 11 2026. No macro, syntax, notation, axiom, sorry.
-/
import Derived.Test.YtplackkccmeioaaGreatChecked
import GoSem.Claim
import GoSem.ClaimJoined
import GoSem.ClaimMapViews
import Derived.JoinedTies
import Derived.KernelRfl
namespace Go.Proofs.YtplackkccmeioaaGreat
/- THE CELL 'sum', in the pinned program and in every row, IS THE sha256 OF THE DUMP (.gsa) THAT YtplackkccmeioaaGreatProg.lean LOADS. Nothing in Lean hashes anything: it is a label: what it is worth is what the hold of that sum in a sandbox is worth. -/
noncomputable def Tryz.pinned : Pinned := { name := "ytplackkccmeioaagreat", sum := "b5605491ee86b2b4023f80db29d62002771ea910c39aff84d3bdff61892436f7", checked := Tryz.checked }
namespace Rows
def none {H : Type} : Left H := { results := [], args := [] }

/-- 'antipodelaw24.TxnAsks': WHATEVER THE INPUT: true; the input reads as it did. -/
def txnAsksSpec : ChangeSpec := { name := "txnAsks", fn := fun _ => fun
  | [d1, d2, d3] => { results := [.lit (.bool true)], args := [d1, d2, d3] }
  | _ => none }
def txnAsksRow : OpenClaim := { program := "ytplackkccmeioaagreat", sum := "b5605491ee86b2b4023f80db29d62002771ea910c39aff84d3bdff61892436f7", func := "antipode/antipodelaw24.TxnAsks", spec := "txnAsks", inPlace := ["internal/bytealg.IndexByteString", "internal/bytealg.IndexString", "internal/bytealg.abigen_runtime_cmpstring", "internal/reflectlite.ValueOf", "internal/reflectlite.Swapper", "(internal/reflectlite.Value).Len", "slices.overlaps[antipode/plan.Need]"], unfollowed := true, recurses := true, named := ["internal/bytealg.MaxLen"], plainKeys := false, apart := false }
def TxnAsksSaid : Prop := txnAsksRow.holds Tryz.pinned (OpenSpec.ofChange txnAsksSpec)

/-- ITS FALSE NEIGHBOUR: 'it returns false'. Refute it at one input. -/
def txnAsksWrong : ChangeSpec := { name := "txnAsks", fn := fun _ => fun
  | [d1, d2, d3] => { results := [.lit (.bool false)], args := [d1, d2, d3] }
  | _ => none }
def TxnAsksWrongFalsely : Prop := txnAsksRow.holds Tryz.pinned (OpenSpec.ofChange txnAsksWrong)

/-- 'antipodelaw24.TxnStamps': WHATEVER THE INPUT: true; the input reads as it did. -/
def txnStampsSpec : ChangeSpec := { name := "txnStamps", fn := fun _ => fun
  | [d1, d2, d3] => { results := [.lit (.bool true)], args := [d1, d2, d3] }
  | _ => none }
def txnStampsRow : OpenClaim := { program := "ytplackkccmeioaagreat", sum := "b5605491ee86b2b4023f80db29d62002771ea910c39aff84d3bdff61892436f7", func := "antipode/antipodelaw24.TxnStamps", spec := "txnStamps", inPlace := ["internal/bytealg.IndexByteString", "internal/bytealg.IndexString", "internal/bytealg.abigen_runtime_cmpstring", "internal/reflectlite.ValueOf", "internal/reflectlite.Swapper", "(internal/reflectlite.Value).Len", "slices.overlaps[antipode/plan.Need]"], unfollowed := true, recurses := true, named := ["internal/bytealg.MaxLen"], plainKeys := false, apart := false }
def TxnStampsSaid : Prop := txnStampsRow.holds Tryz.pinned (OpenSpec.ofChange txnStampsSpec)

/-- ITS FALSE NEIGHBOUR: 'it returns false'. Refute it at one input. -/
def txnStampsWrong : ChangeSpec := { name := "txnStamps", fn := fun _ => fun
  | [d1, d2, d3] => { results := [.lit (.bool false)], args := [d1, d2, d3] }
  | _ => none }
def TxnStampsWrongFalsely : Prop := txnStampsRow.holds Tryz.pinned (OpenSpec.ofChange txnStampsWrong)

/-- 'antipodelaw24.TxnPushes': WHATEVER THE INPUT: true; the input reads as it did. -/
def txnPushesSpec : ChangeSpec := { name := "txnPushes", fn := fun _ => fun
  | [d1, d2, d3, d4, d5] => { results := [.lit (.bool true)], args := [d1, d2, d3, d4, d5] }
  | _ => none }
def txnPushesRow : OpenClaim := { program := "ytplackkccmeioaagreat", sum := "b5605491ee86b2b4023f80db29d62002771ea910c39aff84d3bdff61892436f7", func := "antipode/antipodelaw24.TxnPushes", spec := "txnPushes", inPlace := ["internal/bytealg.IndexByteString", "internal/bytealg.IndexString", "internal/bytealg.abigen_runtime_cmpstring", "internal/reflectlite.ValueOf", "internal/reflectlite.Swapper", "(internal/reflectlite.Value).Len", "slices.overlaps[antipode/plan.Need]"], unfollowed := true, recurses := true, named := ["internal/bytealg.MaxLen"], plainKeys := false, apart := false }
def TxnPushesSaid : Prop := txnPushesRow.holds Tryz.pinned (OpenSpec.ofChange txnPushesSpec)

/-- ITS FALSE NEIGHBOUR: 'it returns false'. Refute it at one input. -/
def txnPushesWrong : ChangeSpec := { name := "txnPushes", fn := fun _ => fun
  | [d1, d2, d3, d4, d5] => { results := [.lit (.bool false)], args := [d1, d2, d3, d4, d5] }
  | _ => none }
def TxnPushesWrongFalsely : Prop := txnPushesRow.holds Tryz.pinned (OpenSpec.ofChange txnPushesWrong)

/- THE SECOND FORM. 'bulk': how many values and letters a reading holds, each counted each time it is reached (what is shared counts as often as it is met; a slice's spare places count too). A statement '..UptoSaid' is the law's where the arguments, and the package variables that the reading takes, are together of bulk at most 1048576: NARROWER than '..Said'. Prove '..Said' where nothing that the law and all that it calls make is longer than what came in: it says more and counts as full. Else prove '..UptoSaid'. A law counts once. -/
mutual
def uptoBulk {H : Type} : DataW H → Nat
  | .lit (.string bytes) => bytes.length + 1
  | .lit _ => 1
  | .nil => 1
  | .ptr d => uptoBulk d + 1
  | .slice elems spare => uptoBulkAll elems + uptoBulkAll spare + 1
  | .agg parts => uptoBulkAll parts + 1
  | .iface _ d => uptoBulk d + 1
  | .map entries => uptoBulkEntries entries + 1
  | .held _ => 1
def uptoBulkAll {H : Type} : List (DataW H) → Nat
  | [] => 0
  | d :: r => uptoBulk d + uptoBulkAll r
def uptoBulkEntries {H : Type} : List (Lit × DataW H) → Nat
  | [] => 0
  | x :: r => uptoBulkEntry x + uptoBulkEntries r
def uptoBulkEntry {H : Type} : Lit × DataW H → Nat
  | (.string bytes, d) => bytes.length + uptoBulk d + 1
  | (_, d) => uptoBulk d + 1
 end
def uptoSmall : (H : Type) → List (DataW H) → Bool := fun _ ds => decide (uptoBulkAll ds ≤ 1048576)
def OpenSpec.upto (s : _root_.Go.ChangeSpec) : _root_.Go.OpenSpec := { _root_.Go.OpenSpec.ofChange s with cond := some uptoSmall }

/-- 'antipodelaw24.TxnAsks', WHERE WHAT IT READS IS OF BULK AT MOST 1048576: true; the input reads as it did. -/
def txnAsksUptoRow : OpenClaim := { program := "ytplackkccmeioaagreat", sum := "b5605491ee86b2b4023f80db29d62002771ea910c39aff84d3bdff61892436f7", func := "antipode/antipodelaw24.TxnAsks", spec := "txnAsks", inPlace := ["internal/bytealg.IndexByteString", "internal/bytealg.IndexString", "internal/bytealg.abigen_runtime_cmpstring", "internal/reflectlite.ValueOf", "internal/reflectlite.Swapper", "(internal/reflectlite.Value).Len", "slices.overlaps[antipode/plan.Need]"], unfollowed := true, recurses := true, named := ["internal/bytealg.MaxLen"], plainKeys := false, apart := false, narrowed := true }
def TxnAsksUptoSaid : Prop := txnAsksUptoRow.holds Tryz.pinned (OpenSpec.upto txnAsksSpec)

/-- 'antipodelaw24.TxnStamps', WHERE WHAT IT READS IS OF BULK AT MOST 1048576: true; the input reads as it did. -/
def txnStampsUptoRow : OpenClaim := { program := "ytplackkccmeioaagreat", sum := "b5605491ee86b2b4023f80db29d62002771ea910c39aff84d3bdff61892436f7", func := "antipode/antipodelaw24.TxnStamps", spec := "txnStamps", inPlace := ["internal/bytealg.IndexByteString", "internal/bytealg.IndexString", "internal/bytealg.abigen_runtime_cmpstring", "internal/reflectlite.ValueOf", "internal/reflectlite.Swapper", "(internal/reflectlite.Value).Len", "slices.overlaps[antipode/plan.Need]"], unfollowed := true, recurses := true, named := ["internal/bytealg.MaxLen"], plainKeys := false, apart := false, narrowed := true }
def TxnStampsUptoSaid : Prop := txnStampsUptoRow.holds Tryz.pinned (OpenSpec.upto txnStampsSpec)

/-- 'antipodelaw24.TxnPushes', WHERE WHAT IT READS IS OF BULK AT MOST 1048576: true; the input reads as it did. -/
def txnPushesUptoRow : OpenClaim := { program := "ytplackkccmeioaagreat", sum := "b5605491ee86b2b4023f80db29d62002771ea910c39aff84d3bdff61892436f7", func := "antipode/antipodelaw24.TxnPushes", spec := "txnPushes", inPlace := ["internal/bytealg.IndexByteString", "internal/bytealg.IndexString", "internal/bytealg.abigen_runtime_cmpstring", "internal/reflectlite.ValueOf", "internal/reflectlite.Swapper", "(internal/reflectlite.Value).Len", "slices.overlaps[antipode/plan.Need]"], unfollowed := true, recurses := true, named := ["internal/bytealg.MaxLen"], plainKeys := false, apart := false, narrowed := true }
def TxnPushesUptoSaid : Prop := txnPushesUptoRow.holds Tryz.pinned (OpenSpec.upto txnPushesSpec)

end Rows
end Go.Proofs.YtplackkccmeioaaGreat
