/-
  DERIVED. GIVEN WITH THE SEED: THE CARDS: each row of YtiehafgmdbiplaaGreatDoorRows.lean that lists a variable, with what it lists TIED to the program's text (the seventh form; the later family's looks); each row that meets fmt, with fmt's text TOLD by the authors' own Lean function (tested against real Go, not proved from fmt's source: count such statements apart). THE CARD IS WHAT COUNTS. Prove the row's statement (the work); the ties are given (YtiehafgmdbiplaaGreatDoorTie.lean); close each card by the builder's one call (the guide's Derived/Test/ToyasCard.lean, 'card_holds'). Laid BY PROGRAM, IN A SANDBOX (cutbox-door.mjs). By AI agents, Wed Nov 11 2026. No macro, syntax, notation, axiom, sorry.
-/
import Derived.Test.YtiehafgmdbiplaaGreatDoorRows
import GoSem.ClaimSeven
namespace Go.Proofs.YtiehafgmdbiplaaGreatDoor
namespace Rows

/-- THE TIED CARD OF 'chisellaw37.StreamableBounds'. -/
def streamableBoundsCard : Claim7 := { stood := { row := streamableBoundsRow, standIns := [], harness := (true, "68a58c4022290c59e9d664d279bb6c9d2b260400983e9635850a54daa3b2a554"), looks := true }, kinds := [], alts := [], laidByText := true, laidKinds := [.widerDeep, .wider, .data], laidTests := true, laidLooks := .later }
def StreamableBoundsCardSaid : Prop := Claim7.holds Tryz.pinned (.plain (OpenSpec.ofChange streamableBoundsSpec)) streamableBoundsCard

/-- THE SECOND FORM's CARD OF 'chisellaw37.StreamableBounds'. -/
def streamableBoundsUptoCard : Claim7 := { stood := { row := streamableBoundsUptoRow, standIns := [], harness := (true, "68a58c4022290c59e9d664d279bb6c9d2b260400983e9635850a54daa3b2a554"), looks := true }, kinds := [], alts := [], laidByText := true, laidKinds := [.widerDeep, .wider, .data], laidTests := true, laidLooks := .later }
def StreamableBoundsUptoCardSaid : Prop := Claim7.holds Tryz.pinned (.plain (OpenSpec.upto streamableBoundsSpec)) streamableBoundsUptoCard
end Rows
end Go.Proofs.YtiehafgmdbiplaaGreatDoor
