/-
  DERIVED. GIVEN WITH THE SEED: THE CARDS: each row of YtfbeheihdjglgaaDoorRows.lean that lists a variable, with what it lists TIED to the program's text (the seventh form; the later family's looks); each row that meets fmt, with fmt's text TOLD by the authors' own Lean function (tested against real Go, not proved from fmt's source: count such statements apart). THE CARD IS WHAT COUNTS. Prove the row's statement (the work); the ties are given (YtfbeheihdjglgaaDoorTie.lean); close each card by the builder's one call (the guide's Derived/Test/ToyasCard.lean, 'card_holds'). Laid BY PROGRAM, IN A SANDBOX (cutbox-door.mjs). By AI agents, Wed Nov 11 2026. No macro, syntax, notation, axiom, sorry.
-/
import Derived.Test.YtfbeheihdjglgaaDoorRows
import GoSem.ClaimSeven
namespace Go.Proofs.YtfbeheihdjglgaaDoor
namespace Rows

/-- THE TIED CARD OF 'chisellaw36.PostureDeep'. -/
def postureDeepCard : Claim7 := { stood := { row := postureDeepRow, standIns := [], harness := (true, "16fbcecd2d5c97bf0191c95296bafaab77225808ec92a3aa5c18ee1342ef0775"), looks := false }, kinds := [], alts := [], laidByText := true, laidKinds := [.wider, .data], laidTests := true, laidLooks := .later }
def PostureDeepCardSaid : Prop := Claim7.holds Tryd.pinned (.plain (OpenSpec.ofChange postureDeepSpec)) postureDeepCard

/-- THE SECOND FORM's CARD OF 'chisellaw36.PostureDeep'. -/
def postureDeepUptoCard : Claim7 := { stood := { row := postureDeepUptoRow, standIns := [], harness := (true, "16fbcecd2d5c97bf0191c95296bafaab77225808ec92a3aa5c18ee1342ef0775"), looks := false }, kinds := [], alts := [], laidByText := true, laidKinds := [.wider, .data], laidTests := true, laidLooks := .later }
def PostureDeepUptoCardSaid : Prop := Claim7.holds Tryd.pinned (.plain (OpenSpec.upto postureDeepSpec)) postureDeepUptoCard
end Rows
end Go.Proofs.YtfbeheihdjglgaaDoor
