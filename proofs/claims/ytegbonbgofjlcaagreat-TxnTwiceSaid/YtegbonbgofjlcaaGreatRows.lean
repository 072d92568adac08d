/-
  NARROWER THAN 'FOR EVERY INPUT', by the rows' own cells (each row's printed sentence says how): TxnLots: loops.
  DERIVED. THE GIVEN ROWS OF THIS SEAT. 4 by the template 'for every input the law returns true; each argument reads behind the call as it read before'; 0 by the template 'total and deterministic' (their statements: YtegbonbgofjlcaaGreatTotals.lean).
  GIVEN WITH THE SEED: the statements are not yours to turn. If you find one false, say at which input.
  Laid BY PROGRAM, IN A SANDBOX (cutbox-rows.mjs): the forced cells as the released guide's own fill.sh prints them over the translation dbfe3c4ad8fc31c5… (all of the seat's roots in one cut). By AI agents, Wed Nov 11 2026. No macro, syntax, notation, axiom, sorry.
-/
import Derived.Test.YtegbonbgofjlcaaGreatChecked
import GoSem.Claim
import GoSem.ClaimJoined
import GoSem.ClaimMapViews
import Derived.JoinedTies
import Derived.KernelRfl
namespace Go.Proofs.YtegbonbgofjlcaaGreat
/- THE CELL 'sum', in the pinned program and in every row, IS THE sha256 OF THE DUMP (.gsa) THAT YtegbonbgofjlcaaGreatProg.lean LOADS. Nothing in Lean hashes anything: it is a label: what it is worth is what the hold of that sum in a sandbox is worth. -/
noncomputable def Tryz.pinned : Pinned := { name := "ytegbonbgofjlcaagreat", sum := "dbfe3c4ad8fc31c521dc30cd9116483557a7ecc2a567cd9f41e957ba77e34cbc", checked := Tryz.checked }
namespace Rows
def none {H : Type} : Left H := { results := [], args := [] }

/-- 'antipodelaw24.TxnAll': WHATEVER THE INPUT: true; the input reads as it did. -/
def txnAllSpec : ChangeSpec := { name := "txnAll", fn := fun _ => fun
  | [d1, d2, d3, d4, d5, d6] => { results := [.lit (.bool true)], args := [d1, d2, d3, d4, d5, d6] }
  | _ => none }
def txnAllRow : OpenClaim := { program := "ytegbonbgofjlcaagreat", sum := "dbfe3c4ad8fc31c521dc30cd9116483557a7ecc2a567cd9f41e957ba77e34cbc", func := "antipode/antipodelaw24.TxnAll", spec := "txnAll", inPlace := ["internal/bytealg.IndexByteString", "internal/bytealg.IndexString", "internal/bytealg.abigen_runtime_cmpstring", "internal/reflectlite.ValueOf", "internal/reflectlite.Swapper", "(internal/reflectlite.Value).Len", "slices.overlaps[antipode/plan.Need]"], unfollowed := true, recurses := true, named := ["internal/bytealg.MaxLen"], plainKeys := false, apart := false }
def TxnAllSaid : Prop := txnAllRow.holds Tryz.pinned (OpenSpec.ofChange txnAllSpec)

/-- ITS FALSE NEIGHBOUR: 'it returns false'. Refute it at one input. -/
def txnAllWrong : ChangeSpec := { name := "txnAll", fn := fun _ => fun
  | [d1, d2, d3, d4, d5, d6] => { results := [.lit (.bool false)], args := [d1, d2, d3, d4, d5, d6] }
  | _ => none }
def TxnAllWrongFalsely : Prop := txnAllRow.holds Tryz.pinned (OpenSpec.ofChange txnAllWrong)

/-- 'antipodelaw24.TxnLots': WHATEVER THE INPUT: true; the input reads as it did. -/
def txnLotsSpec : ChangeSpec := { name := "txnLots", fn := fun _ => fun
  | [d1, d2, d3, d4] => { results := [.lit (.bool true)], args := [d1, d2, d3, d4] }
  | _ => none }
def txnLotsRow : OpenClaim := { program := "ytegbonbgofjlcaagreat", sum := "dbfe3c4ad8fc31c521dc30cd9116483557a7ecc2a567cd9f41e957ba77e34cbc", func := "antipode/antipodelaw24.TxnLots", spec := "txnLots", inPlace := ["internal/bytealg.IndexByteString", "internal/bytealg.IndexString", "internal/bytealg.abigen_runtime_cmpstring", "internal/reflectlite.ValueOf", "internal/reflectlite.Swapper", "(internal/reflectlite.Value).Len", "slices.overlaps[antipode/plan.Need]"], unfollowed := true, recurses := true, named := ["internal/bytealg.MaxLen"], loops := true, plainKeys := false, apart := false }
def TxnLotsSaid : Prop := txnLotsRow.holds Tryz.pinned (OpenSpec.ofChange txnLotsSpec)

/-- ITS FALSE NEIGHBOUR: 'it returns false'. Refute it at one input. -/
def txnLotsWrong : ChangeSpec := { name := "txnLots", fn := fun _ => fun
  | [d1, d2, d3, d4] => { results := [.lit (.bool false)], args := [d1, d2, d3, d4] }
  | _ => none }
def TxnLotsWrongFalsely : Prop := txnLotsRow.holds Tryz.pinned (OpenSpec.ofChange txnLotsWrong)

/-- 'antipodelaw24.TxnAlone': WHATEVER THE INPUT: true; the input reads as it did. -/
def txnAloneSpec : ChangeSpec := { name := "txnAlone", fn := fun _ => fun
  | [d] => { results := [.lit (.bool true)], args := [d] }
  | _ => none }
def txnAloneRow : OpenClaim := { program := "ytegbonbgofjlcaagreat", sum := "dbfe3c4ad8fc31c521dc30cd9116483557a7ecc2a567cd9f41e957ba77e34cbc", func := "antipode/antipodelaw24.TxnAlone", spec := "txnAlone", inPlace := ["internal/bytealg.IndexByteString", "internal/bytealg.IndexString", "internal/bytealg.abigen_runtime_cmpstring", "internal/reflectlite.ValueOf", "internal/reflectlite.Swapper", "(internal/reflectlite.Value).Len", "slices.overlaps[antipode/plan.Need]"], unfollowed := true, recurses := true, named := ["internal/bytealg.MaxLen"], plainKeys := false, apart := false }
def TxnAloneSaid : Prop := txnAloneRow.holds Tryz.pinned (OpenSpec.ofChange txnAloneSpec)

/-- ITS FALSE NEIGHBOUR: 'it returns false'. Refute it at one input. -/
def txnAloneWrong : ChangeSpec := { name := "txnAlone", fn := fun _ => fun
  | [d] => { results := [.lit (.bool false)], args := [d] }
  | _ => none }
def TxnAloneWrongFalsely : Prop := txnAloneRow.holds Tryz.pinned (OpenSpec.ofChange txnAloneWrong)

/-- 'antipodelaw24.TxnTwice': WHATEVER THE INPUT: true; the input reads as it did. -/
def txnTwiceSpec : ChangeSpec := { name := "txnTwice", fn := fun _ => fun
  | [d1, d2, d3] => { results := [.lit (.bool true)], args := [d1, d2, d3] }
  | _ => none }
def txnTwiceRow : OpenClaim := { program := "ytegbonbgofjlcaagreat", sum := "dbfe3c4ad8fc31c521dc30cd9116483557a7ecc2a567cd9f41e957ba77e34cbc", func := "antipode/antipodelaw24.TxnTwice", spec := "txnTwice", inPlace := ["internal/bytealg.IndexByteString", "internal/bytealg.IndexString", "internal/bytealg.abigen_runtime_cmpstring", "internal/reflectlite.ValueOf", "internal/reflectlite.Swapper", "(internal/reflectlite.Value).Len", "slices.overlaps[antipode/plan.Need]"], unfollowed := true, recurses := true, named := ["internal/bytealg.MaxLen"], plainKeys := false, apart := false }
def TxnTwiceSaid : Prop := txnTwiceRow.holds Tryz.pinned (OpenSpec.ofChange txnTwiceSpec)

/-- ITS FALSE NEIGHBOUR: 'it returns false'. Refute it at one input. -/
def txnTwiceWrong : ChangeSpec := { name := "txnTwice", fn := fun _ => fun
  | [d1, d2, d3] => { results := [.lit (.bool false)], args := [d1, d2, d3] }
  | _ => none }
def TxnTwiceWrongFalsely : Prop := txnTwiceRow.holds Tryz.pinned (OpenSpec.ofChange txnTwiceWrong)

/- THE SECOND FORM. 'bulk': how many values and letters a reading holds, each counted each time it is reached (what is shared counts as often as it is met; a slice's spare places count too). A statement '..UptoSaid' is the law's where the arguments, and the package variables that the reading takes, are together of bulk at most 1048576: NARROWER than '..Said'. Prove '..Said' where nothing that the law and all that it calls make is longer than what came in: it says more and counts as full. Else prove '..UptoSaid'. A law counts once. -/
mutual
def uptoBulk {H : Type} : DataW H → Nat
  | .lit (.string bytes) => bytes.length + 1
  | .lit _ => 1
  | .nil => 1
  | .ptr d => uptoBulk d + 1
  | .slice elems spare => uptoBulkAll elems + uptoBulkAll spare + 1
  | .agg parts => uptoBulkAll parts + 1
  | .iface _ d => uptoBulk d + 1
  | .map entries => uptoBulkEntries entries + 1
  | .held _ => 1
def uptoBulkAll {H : Type} : List (DataW H) → Nat
  | [] => 0
  | d :: r => uptoBulk d + uptoBulkAll r
def uptoBulkEntries {H : Type} : List (Lit × DataW H) → Nat
  | [] => 0
  | x :: r => uptoBulkEntry x + uptoBulkEntries r
def uptoBulkEntry {H : Type} : Lit × DataW H → Nat
  | (.string bytes, d) => bytes.length + uptoBulk d + 1
  | (_, d) => uptoBulk d + 1
 end
def uptoSmall : (H : Type) → List (DataW H) → Bool := fun _ ds => decide (uptoBulkAll ds ≤ 1048576)
def OpenSpec.upto (s : _root_.Go.ChangeSpec) : _root_.Go.OpenSpec := { _root_.Go.OpenSpec.ofChange s with cond := some uptoSmall }

/-- 'antipodelaw24.TxnAll', WHERE WHAT IT READS IS OF BULK AT MOST 1048576: true; the input reads as it did. -/
def txnAllUptoRow : OpenClaim := { program := "ytegbonbgofjlcaagreat", sum := "dbfe3c4ad8fc31c521dc30cd9116483557a7ecc2a567cd9f41e957ba77e34cbc", func := "antipode/antipodelaw24.TxnAll", spec := "txnAll", inPlace := ["internal/bytealg.IndexByteString", "internal/bytealg.IndexString", "internal/bytealg.abigen_runtime_cmpstring", "internal/reflectlite.ValueOf", "internal/reflectlite.Swapper", "(internal/reflectlite.Value).Len", "slices.overlaps[antipode/plan.Need]"], unfollowed := true, recurses := true, named := ["internal/bytealg.MaxLen"], plainKeys := false, apart := false, narrowed := true }
def TxnAllUptoSaid : Prop := txnAllUptoRow.holds Tryz.pinned (OpenSpec.upto txnAllSpec)

/-- 'antipodelaw24.TxnLots', WHERE WHAT IT READS IS OF BULK AT MOST 1048576: true; the input reads as it did. -/
def txnLotsUptoRow : OpenClaim := { program := "ytegbonbgofjlcaagreat", sum := "dbfe3c4ad8fc31c521dc30cd9116483557a7ecc2a567cd9f41e957ba77e34cbc", func := "antipode/antipodelaw24.TxnLots", spec := "txnLots", inPlace := ["internal/bytealg.IndexByteString", "internal/bytealg.IndexString", "internal/bytealg.abigen_runtime_cmpstring", "internal/reflectlite.ValueOf", "internal/reflectlite.Swapper", "(internal/reflectlite.Value).Len", "slices.overlaps[antipode/plan.Need]"], unfollowed := true, recurses := true, named := ["internal/bytealg.MaxLen"], loops := true, plainKeys := false, apart := false, narrowed := true }
def TxnLotsUptoSaid : Prop := txnLotsUptoRow.holds Tryz.pinned (OpenSpec.upto txnLotsSpec)

/-- 'antipodelaw24.TxnAlone', WHERE WHAT IT READS IS OF BULK AT MOST 1048576: true; the input reads as it did. -/
def txnAloneUptoRow : OpenClaim := { program := "ytegbonbgofjlcaagreat", sum := "dbfe3c4ad8fc31c521dc30cd9116483557a7ecc2a567cd9f41e957ba77e34cbc", func := "antipode/antipodelaw24.TxnAlone", spec := "txnAlone", inPlace := ["internal/bytealg.IndexByteString", "internal/bytealg.IndexString", "internal/bytealg.abigen_runtime_cmpstring", "internal/reflectlite.ValueOf", "internal/reflectlite.Swapper", "(internal/reflectlite.Value).Len", "slices.overlaps[antipode/plan.Need]"], unfollowed := true, recurses := true, named := ["internal/bytealg.MaxLen"], plainKeys := false, apart := false, narrowed := true }
def TxnAloneUptoSaid : Prop := txnAloneUptoRow.holds Tryz.pinned (OpenSpec.upto txnAloneSpec)

/-- 'antipodelaw24.TxnTwice', WHERE WHAT IT READS IS OF BULK AT MOST 1048576: true; the input reads as it did. -/
def txnTwiceUptoRow : OpenClaim := { program := "ytegbonbgofjlcaagreat", sum := "dbfe3c4ad8fc31c521dc30cd9116483557a7ecc2a567cd9f41e957ba77e34cbc", func := "antipode/antipodelaw24.TxnTwice", spec := "txnTwice", inPlace := ["internal/bytealg.IndexByteString", "internal/bytealg.IndexString", "internal/bytealg.abigen_runtime_cmpstring", "internal/reflectlite.ValueOf", "internal/reflectlite.Swapper", "(internal/reflectlite.Value).Len", "slices.overlaps[antipode/plan.Need]"], unfollowed := true, recurses := true, named := ["internal/bytealg.MaxLen"], plainKeys := false, apart := false, narrowed := true }
def TxnTwiceUptoSaid : Prop := txnTwiceUptoRow.holds Tryz.pinned (OpenSpec.upto txnTwiceSpec)

end Rows
end Go.Proofs.YtegbonbgofjlcaaGreat
