/-
  DERIVED. GIVEN WITH THE SEED: THE CARDS: each row of YtoffjgbghlcbpaaGreatDoorRows.lean that lists a variable, with what it lists TIED to the program's text (the seventh form; the later family's looks); each row that meets fmt, with fmt's text TOLD by the authors' own Lean function (tested against real Go, not proved from fmt's source: count such statements apart). THE CARD IS WHAT COUNTS. Prove the row's statement (the work); the ties are given (YtoffjgbghlcbpaaGreatDoorTie.lean); close each card by the builder's one call (the guide's Derived/Test/ToyasCard.lean, 'card_holds'). Laid BY PROGRAM, IN A SANDBOX (cutbox-door.mjs). By AI agents, Wed Nov 11 2026. No macro, syntax, notation, axiom, sorry.
-/
import Derived.Test.YtoffjgbghlcbpaaGreatDoorRows
import GoSem.ClaimSeven
namespace Go.Proofs.YtoffjgbghlcbpaaGreatDoor
namespace Rows

/-- THE TIED CARD OF 'chisellaw37.StreamableKnown'. -/
def streamableKnownCard : Claim7 := { stood := { row := streamableKnownRow, standIns := [], harness := (true, "cba74d7742b40543cdb71c55ee3419603d07ac33d390e6818fc00aa285b63ec2"), looks := true }, kinds := [], alts := [], laidByText := true, laidKinds := [.data, .widerDeep, .wider, .data, .pinned], laidTests := true, laidLooks := .later }
def StreamableKnownCardSaid : Prop := Claim7.holds Tryz.pinned (.plain (OpenSpec.ofChange streamableKnownSpec)) streamableKnownCard

/-- THE SECOND FORM's CARD OF 'chisellaw37.StreamableKnown'. -/
def streamableKnownUptoCard : Claim7 := { stood := { row := streamableKnownUptoRow, standIns := [], harness := (true, "cba74d7742b40543cdb71c55ee3419603d07ac33d390e6818fc00aa285b63ec2"), looks := true }, kinds := [], alts := [], laidByText := true, laidKinds := [.data, .widerDeep, .wider, .data, .pinned], laidTests := true, laidLooks := .later }
def StreamableKnownUptoCardSaid : Prop := Claim7.holds Tryz.pinned (.plain (OpenSpec.upto streamableKnownSpec)) streamableKnownUptoCard
end Rows
end Go.Proofs.YtoffjgbghlcbpaaGreatDoor
