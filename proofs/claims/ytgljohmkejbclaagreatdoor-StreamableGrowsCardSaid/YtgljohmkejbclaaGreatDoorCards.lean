/-
  DERIVED. GIVEN WITH THE SEED: THE CARDS: each row of YtgljohmkejbclaaGreatDoorRows.lean that lists a variable, with what it lists TIED to the program's text (the seventh form; the later family's looks); each row that meets fmt, with fmt's text TOLD by the authors' own Lean function (tested against real Go, not proved from fmt's source: count such statements apart). THE CARD IS WHAT COUNTS. Prove the row's statement (the work); the ties are given (YtgljohmkejbclaaGreatDoorTie.lean); close each card by the builder's one call (the guide's Derived/Test/ToyasCard.lean, 'card_holds'). Laid BY PROGRAM, IN A SANDBOX (cutbox-door.mjs). By AI agents, Wed Nov 11 2026. No macro, syntax, notation, axiom, sorry.
-/
import Derived.Test.YtgljohmkejbclaaGreatDoorRows
import GoSem.ClaimSeven
namespace Go.Proofs.YtgljohmkejbclaaGreatDoor
namespace Rows

/-- THE TIED CARD OF 'chisellaw37.StreamableGrows'. -/
def streamableGrowsCard : Claim7 := { stood := { row := streamableGrowsRow, standIns := [], harness := (true, "63e08c77393c74fe59b8049b1c2c7c94537cd4285cd0c243df6de06c219d4060"), looks := true }, kinds := [], alts := [], laidByText := true, laidKinds := [.widerDeep, .wider, .data], laidTests := true, laidLooks := .later }
def StreamableGrowsCardSaid : Prop := Claim7.holds Tryz.pinned (.plain (OpenSpec.ofChange streamableGrowsSpec)) streamableGrowsCard

/-- THE SECOND FORM's CARD OF 'chisellaw37.StreamableGrows'. -/
def streamableGrowsUptoCard : Claim7 := { stood := { row := streamableGrowsUptoRow, standIns := [], harness := (true, "63e08c77393c74fe59b8049b1c2c7c94537cd4285cd0c243df6de06c219d4060"), looks := true }, kinds := [], alts := [], laidByText := true, laidKinds := [.widerDeep, .wider, .data], laidTests := true, laidLooks := .later }
def StreamableGrowsUptoCardSaid : Prop := Claim7.holds Tryz.pinned (.plain (OpenSpec.upto streamableGrowsSpec)) streamableGrowsUptoCard
end Rows
end Go.Proofs.YtgljohmkejbclaaGreatDoor
