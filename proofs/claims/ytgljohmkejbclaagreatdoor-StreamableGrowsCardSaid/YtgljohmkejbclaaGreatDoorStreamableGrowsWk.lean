/- Part of the proof that the law StreamableGrows answers true: the law itself, and the tied card. No condition. -/
import Derived.Test.YtgljohmkejbclaaGreatDoorStreamableGrowsB
import Derived.Test.YtgljohmkejbclaaGreatDoorShArgs
namespace Go.Proofs.YtgljohmkejbclaaGreatDoor
open Go Go.Sh Go.ChangeShapes Go.WideShapes Go.ChangeAt Go.RowKit
theorem streamableGrows_run : (ev streamableGrowsE streamableGrowsX Tryz.prog 1001).f.f 4 [] ⟨rowHp .e streamableGrowsBs, 4, big⟩ (rowEnd ⟨4, [], [], .bool true, none⟩) (fun _ _ => false) = true := by kernel_rfl
theorem streamableGrows_row (ρ0 : Rho) (n0 : Nat) : KRowOk (LaidI (rowHp .e streamableGrowsBs) ρ0 n0) Tryz.prog 4 ⟨4, [], [], .bool true, none⟩ :=
  krow_of_ev (E := streamableGrowsE) (X := streamableGrowsX) (m := 1000) (by kernel_rfl) ⟨streamableGrowsE_ok⟩ (streamableGrowsX_ok _) (LaidI.ki rowHp_ro) rfl (by kernel_rfl) streamableGrows_run
theorem streamableGrows_at {W0 W : World} (hsh : W0.ShapedOpen Tryz.prog) (hL : laidMetH Tryz.prog Rows.streamableGrowsRow.laid W0) (hB : RowKit.Below W0.heap.size W0 W) : Calls Tryz.prog 4 #[] W (fun e w' => e = .returned (.bool true) ∧ RowKit.Below W.heap.size W w') := by
  rw [MakeChecks.laidMetH_plain _ _ _ (by kernel_rfl)] at hL
  refine calls_closed_at (bs := streamableGrowsBs) (by kernel_rfl) streamableGrows_row ?_ (by kernel_rfl) hsh hL hB
  intro x hx
  rcases List.mem_cons.1 hx with rfl | hx
  · exact ⟨by decide, "chisel/posture.bad", Rows.laid_chisel_posture_bad, 118, 6, by simp [Rows.streamableGrowsRow], by kernel_rfl, by kernel_rfl, by kernel_rfl⟩
  rcases List.mem_cons.1 hx with rfl | hx
  · exact ⟨by decide, "chisel/posture.still", Rows.laid_chisel_posture_still, 118, 6, by simp [Rows.streamableGrowsRow], by kernel_rfl, by kernel_rfl, by kernel_rfl⟩
  rcases List.mem_cons.1 hx with rfl | hx
  · exact ⟨by decide, "chisel/expr.tests", Rows.laid_chisel_expr_tests, 153, 6, by simp [Rows.streamableGrowsRow], by kernel_rfl, by kernel_rfl, by kernel_rfl⟩
  cases hx
end Go.Proofs.YtgljohmkejbclaaGreatDoor
