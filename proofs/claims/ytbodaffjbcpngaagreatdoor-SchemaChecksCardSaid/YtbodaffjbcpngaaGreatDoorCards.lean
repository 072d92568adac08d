/-
  DERIVED. GIVEN WITH THE SEED: THE CARDS: each row of YtbodaffjbcpngaaGreatDoorRows.lean that lists a variable, with what it lists TIED to the program's text (the seventh form; the later family's looks); each row that meets fmt, with fmt's text TOLD by the authors' own Lean function (tested against real Go, not proved from fmt's source: count such statements apart). THE CARD IS WHAT COUNTS. Prove the row's statement (the work); the ties are given (YtbodaffjbcpngaaGreatDoorTie.lean); close each card by the builder's one call (the guide's Derived/Test/ToyasCard.lean, 'card_holds'). Laid BY PROGRAM, IN A SANDBOX (cutbox-door.mjs). By AI agents, Wed Nov 11 2026. No macro, syntax, notation, axiom, sorry.
-/
import Derived.Test.YtbodaffjbcpngaaGreatDoorRows
import GoSem.ClaimSeven
namespace Go.Proofs.YtbodaffjbcpngaaGreatDoor
namespace Rows

/-- THE TIED CARD OF 'antipodelaw18.SchemaConfs'. -/
def schemaConfsCard : Claim7 := { stood := { row := schemaConfsRow, standIns := [], harness := (true, "4f3acacf31a319109b8c5bc9edb3427cb9a79721dde02b704e58ddaaee1e57ca"), looks := false }, kinds := [], alts := [], laidByText := true, laidKinds := [.data], laidTests := true, laidLooks := .later }
def SchemaConfsCardSaid : Prop := Claim7.holds Tryz.pinned (.plain (OpenSpec.ofChange schemaConfsSpec)) schemaConfsCard

/-- THE TIED CARD OF 'antipodelaw18.SchemaChecks'. -/
def schemaChecksCard : Claim7 := { stood := { row := schemaChecksRow, standIns := [], harness := (true, "4f3acacf31a319109b8c5bc9edb3427cb9a79721dde02b704e58ddaaee1e57ca"), looks := false }, kinds := [], alts := [], laidByText := true, laidKinds := [.data], laidTests := true, laidLooks := .later }
def SchemaChecksCardSaid : Prop := Claim7.holds Tryz.pinned (.plain (OpenSpec.ofChange schemaChecksSpec)) schemaChecksCard

/-- THE SECOND FORM's CARD OF 'antipodelaw18.SchemaConfs'. -/
def schemaConfsUptoCard : Claim7 := { stood := { row := schemaConfsUptoRow, standIns := [], harness := (true, "4f3acacf31a319109b8c5bc9edb3427cb9a79721dde02b704e58ddaaee1e57ca"), looks := false }, kinds := [], alts := [], laidByText := true, laidKinds := [.data], laidTests := true, laidLooks := .later }
def SchemaConfsUptoCardSaid : Prop := Claim7.holds Tryz.pinned (.plain (OpenSpec.upto schemaConfsSpec)) schemaConfsUptoCard

/-- THE SECOND FORM's CARD OF 'antipodelaw18.SchemaChecks'. -/
def schemaChecksUptoCard : Claim7 := { stood := { row := schemaChecksUptoRow, standIns := [], harness := (true, "4f3acacf31a319109b8c5bc9edb3427cb9a79721dde02b704e58ddaaee1e57ca"), looks := false }, kinds := [], alts := [], laidByText := true, laidKinds := [.data], laidTests := true, laidLooks := .later }
def SchemaChecksUptoCardSaid : Prop := Claim7.holds Tryz.pinned (.plain (OpenSpec.upto schemaChecksSpec)) schemaChecksUptoCard
end Rows
end Go.Proofs.YtbodaffjbcpngaaGreatDoor
