/-
  DERIVED. GIVEN WITH THE SEED: THE CARDS: each row of YtbgbjlidigojlaaGreatDoorRows.lean that lists a variable, with what it lists TIED to the program's text (the seventh form; the later family's looks); each row that meets fmt, with fmt's text TOLD by the authors' own Lean function (tested against real Go, not proved from fmt's source: count such statements apart). THE CARD IS WHAT COUNTS. Prove the row's statement (the work); the ties are given (YtbgbjlidigojlaaGreatDoorTie.lean); close each card by the builder's one call (the guide's Derived/Test/ToyasCard.lean, 'card_holds'). Laid BY PROGRAM, IN A SANDBOX (cutbox-door.mjs). By AI agents, Wed Nov 11 2026. No macro, syntax, notation, axiom, sorry.
-/
import Derived.Test.YtbgbjlidigojlaaGreatDoorRows
import GoSem.ClaimSeven
namespace Go.Proofs.YtbgbjlidigojlaaGreatDoor
namespace Rows

/-- THE TIED CARD OF 'chisellaw20.ScopeKnows'. -/
def scopeKnowsCard : Claim7 := { stood := { row := scopeKnowsRow, standIns := [], harness := (true, "0f56abc0233e20dfa72bfe78dcc7f59b6f32e9b381e8385b7c0bd3d814069d15"), looks := false }, kinds := [], alts := [], laidByText := true, laidKinds := [.data, .widerDeep], laidTests := true, laidLooks := .later }
def ScopeKnowsCardSaid : Prop := Claim7.holds Tryz.pinned (.plain (OpenSpec.ofChange scopeKnowsSpec)) scopeKnowsCard

/-- THE SECOND FORM's CARD OF 'chisellaw20.ScopeKnows'. -/
def scopeKnowsUptoCard : Claim7 := { stood := { row := scopeKnowsUptoRow, standIns := [], harness := (true, "0f56abc0233e20dfa72bfe78dcc7f59b6f32e9b381e8385b7c0bd3d814069d15"), looks := false }, kinds := [], alts := [], laidByText := true, laidKinds := [.data, .widerDeep], laidTests := true, laidLooks := .later }
def ScopeKnowsUptoCardSaid : Prop := Claim7.holds Tryz.pinned (.plain (OpenSpec.upto scopeKnowsSpec)) scopeKnowsUptoCard
end Rows
end Go.Proofs.YtbgbjlidigojlaaGreatDoor
