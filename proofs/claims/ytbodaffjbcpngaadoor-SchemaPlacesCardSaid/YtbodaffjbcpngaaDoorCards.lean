/-
  DERIVED. GIVEN WITH THE SEED: THE CARDS: each row of YtbodaffjbcpngaaDoorRows.lean that lists a variable, with what it lists TIED to the program's text (the seventh form; the later family's looks); each row that meets fmt, with fmt's text TOLD by the authors' own Lean function (tested against real Go, not proved from fmt's source: count such statements apart). THE CARD IS WHAT COUNTS. Prove the row's statement (the work); the ties are given (YtbodaffjbcpngaaDoorTie.lean); close each card by the builder's one call (the guide's Derived/Test/ToyasCard.lean, 'card_holds'). Laid BY PROGRAM, IN A SANDBOX (cutbox-door.mjs). By AI agents, Wed Nov 11 2026. No macro, syntax, notation, axiom, sorry.
-/
import Derived.Test.YtbodaffjbcpngaaDoorRows
import GoSem.ClaimSeven
namespace Go.Proofs.YtbodaffjbcpngaaDoor
namespace Rows

/-- THE TIED CARD OF 'antipodelaw18.SchemaPlaces'. -/
def schemaPlacesCard : Claim7 := { stood := { row := schemaPlacesRow, standIns := [], harness := (true, "217b959d1a14a68d1400abf79b5678fe6ea163e19a474f0e8283a5675d7e985d"), looks := false }, kinds := [], alts := [], laidByText := true, laidKinds := [.data], laidTests := true, laidLooks := .later }
def SchemaPlacesCardSaid : Prop := Claim7.holds Tryd.pinned (.plain (OpenSpec.ofChange schemaPlacesSpec)) schemaPlacesCard

/-- THE SECOND FORM's CARD OF 'antipodelaw18.SchemaPlaces'. -/
def schemaPlacesUptoCard : Claim7 := { stood := { row := schemaPlacesUptoRow, standIns := [], harness := (true, "217b959d1a14a68d1400abf79b5678fe6ea163e19a474f0e8283a5675d7e985d"), looks := false }, kinds := [], alts := [], laidByText := true, laidKinds := [.data], laidTests := true, laidLooks := .later }
def SchemaPlacesUptoCardSaid : Prop := Claim7.holds Tryd.pinned (.plain (OpenSpec.upto schemaPlacesSpec)) schemaPlacesUptoCard
end Rows
end Go.Proofs.YtbodaffjbcpngaaDoor
