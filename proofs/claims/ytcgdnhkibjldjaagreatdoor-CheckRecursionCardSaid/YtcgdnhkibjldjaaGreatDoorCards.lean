/-
  DERIVED. GIVEN WITH THE SEED: THE CARDS: each row of YtcgdnhkibjldjaaGreatDoorRows.lean that lists a variable, with what it lists TIED to the program's text (the seventh form; the later family's looks); each row that meets fmt, with fmt's text TOLD by the authors' own Lean function (tested against real Go, not proved from fmt's source: count such statements apart). THE CARD IS WHAT COUNTS. Prove the row's statement (the work); the ties are given (YtcgdnhkibjldjaaGreatDoorTie.lean); close each card by the builder's one call (the guide's Derived/Test/ToyasCard.lean, 'card_holds'). Laid BY PROGRAM, IN A SANDBOX (cutbox-door.mjs). By AI agents, Wed Nov 11 2026. No macro, syntax, notation, axiom, sorry.
-/
import Derived.Test.YtcgdnhkibjldjaaGreatDoorRows
import GoSem.ClaimSeven
namespace Go.Proofs.YtcgdnhkibjldjaaGreatDoor
namespace Rows

/-- THE TIED CARD OF 'chisellaw25.CheckRecursion'. -/
def checkRecursionCard : Claim7 := { stood := { row := checkRecursionRow, standIns := [], harness := (true, "20c612c25b6577212e4fa85313d7b9b18718102326a11c8a7ea62895707fbe41"), looks := true }, kinds := [], alts := [], laidByText := true, laidKinds := [.data, .widerDeep, .pinned], laidTests := true, laidLooks := .later }
def CheckRecursionCardSaid : Prop := Claim7.holds Tryz.pinned (.plain (OpenSpec.ofChange checkRecursionSpec)) checkRecursionCard

/-- THE SECOND FORM's CARD OF 'chisellaw25.CheckRecursion'. -/
def checkRecursionUptoCard : Claim7 := { stood := { row := checkRecursionUptoRow, standIns := [], harness := (true, "20c612c25b6577212e4fa85313d7b9b18718102326a11c8a7ea62895707fbe41"), looks := true }, kinds := [], alts := [], laidByText := true, laidKinds := [.data, .widerDeep, .pinned], laidTests := true, laidLooks := .later }
def CheckRecursionUptoCardSaid : Prop := Claim7.holds Tryz.pinned (.plain (OpenSpec.upto checkRecursionSpec)) checkRecursionUptoCard
end Rows
end Go.Proofs.YtcgdnhkibjldjaaGreatDoor
