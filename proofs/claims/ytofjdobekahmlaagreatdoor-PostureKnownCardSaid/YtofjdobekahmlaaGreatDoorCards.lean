/-
  DERIVED. GIVEN WITH THE SEED: THE CARDS: each row of YtofjdobekahmlaaGreatDoorRows.lean that lists a variable, with what it lists TIED to the program's text (the seventh form; the later family's looks); each row that meets fmt, with fmt's text TOLD by the authors' own Lean function (tested against real Go, not proved from fmt's source: count such statements apart). THE CARD IS WHAT COUNTS. Prove the row's statement (the work); the ties are given (YtofjdobekahmlaaGreatDoorTie.lean); close each card by the builder's one call (the guide's Derived/Test/ToyasCard.lean, 'card_holds'). Laid BY PROGRAM, IN A SANDBOX (cutbox-door.mjs). By AI agents, Wed Nov 11 2026. No macro, syntax, notation, axiom, sorry.
-/
import Derived.Test.YtofjdobekahmlaaGreatDoorRows
import GoSem.ClaimSeven
namespace Go.Proofs.YtofjdobekahmlaaGreatDoor
namespace Rows

/-- THE TIED CARD OF 'chisellaw36.PostureKnown'. -/
def postureKnownCard : Claim7 := { stood := { row := postureKnownRow, standIns := [], harness := (true, "a211d03face886714334379bf2f5fc09e3a5b2f806dca603c63321ec1a914eb5"), looks := false }, kinds := [], alts := [], laidByText := true, laidKinds := [.data, .widerDeep, .wider, .data, .pinned], laidTests := true, laidLooks := .later }
def PostureKnownCardSaid : Prop := Claim7.holds Tryz.pinned (.plain (OpenSpec.ofChange postureKnownSpec)) postureKnownCard

/-- THE SECOND FORM's CARD OF 'chisellaw36.PostureKnown'. -/
def postureKnownUptoCard : Claim7 := { stood := { row := postureKnownUptoRow, standIns := [], harness := (true, "a211d03face886714334379bf2f5fc09e3a5b2f806dca603c63321ec1a914eb5"), looks := false }, kinds := [], alts := [], laidByText := true, laidKinds := [.data, .widerDeep, .wider, .data, .pinned], laidTests := true, laidLooks := .later }
def PostureKnownUptoCardSaid : Prop := Claim7.holds Tryz.pinned (.plain (OpenSpec.upto postureKnownSpec)) postureKnownUptoCard
end Rows
end Go.Proofs.YtofjdobekahmlaaGreatDoor
