/-
  DERIVED. GIVEN WITH THE SEED: THE PROGRAM's TIES (one call each: nine closed facts by the kernel) AND EACH ROW's TIE, after the 31st guide's Derived/Test/Toyas{Tie, Card}.lean. No idea stands in it: it is a product of the set-up. Laid BY PROGRAM, IN A SANDBOX (cutbox-door.mjs). By AI agents, Wed Nov 11 2026. No macro, syntax, notation, axiom, sorry.
-/
import Derived.Test.YtgljohmkejbclaaGreatDoorRows
import Derived.LaidByTextLater
import Derived.SevenTiedAt
import Derived.LaidSub
import Derived.LaidOnce
namespace Go.Proofs.YtgljohmkejbclaaGreatDoor
open Go
set_option maxRecDepth 100000
theorem seatTie1 : Tryz.prog.laidByTextLater [("chisel/expr.tests", Rows.laid_chisel_expr_tests), ("chisel/posture.still", Rows.laid_chisel_posture_still), ("chisel/posture.bad", Rows.laid_chisel_posture_bad)] [.widerDeep, .wider, .data] true :=
  Program.laidByTextLater_by_one 24 8 8 (by kernel_rfl) (by kernel_rfl) (by kernel_rfl) (by kernel_rfl) (by kernel_rfl) (by kernel_rfl) (fun _ _ => by kernel_rfl)
theorem noOwnUnsafe : Tryz.pinned.checked.prog.headLifts.contains "ownunsafe" = false := by kernel_rfl
theorem tie : Tryz.prog.laidByTextLater [("chisel/expr.tests", Rows.laid_chisel_expr_tests), ("chisel/posture.still", Rows.laid_chisel_posture_still), ("chisel/posture.bad", Rows.laid_chisel_posture_bad)] [.widerDeep, .wider, .data] true :=
  Program.laidByTextLater.sub seatTie1 ["chisel/expr.tests", "chisel/posture.still", "chisel/posture.bad"] (by kernel_rfl) (by kernel_rfl)
theorem streamableGrows_row_tie : Rows.streamableGrowsRow.laidByTextAt .later Tryz.pinned [.widerDeep, .wider, .data] true :=
  OpenClaim.laidByTextAt_later rfl rfl tie noOwnUnsafe
theorem streamableGrowsUpto_row_tie : Rows.streamableGrowsUptoRow.laidByTextAt .later Tryz.pinned [.widerDeep, .wider, .data] true :=
  OpenClaim.laidByTextAt_later rfl rfl tie noOwnUnsafe
end Go.Proofs.YtgljohmkejbclaaGreatDoor
