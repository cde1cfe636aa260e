/- Part of the proof that the law StreamableBounds answers true: the law itself, and the tied card. No condition. -/
import Derived.Test.YtiehafgmdbiplaaGreatDoorStreamableBoundsB
import Derived.Test.YtiehafgmdbiplaaGreatDoorShArgs
namespace Go.Proofs.YtiehafgmdbiplaaGreatDoor
open Go Go.Sh Go.ChangeShapes Go.WideShapes Go.ChangeAt Go.RowKit
theorem streamableBounds_run : (ev streamableBoundsE streamableBoundsX Tryz.prog 1001).f.f 4 [] ⟨rowHp .e streamableBoundsBs, 4, big⟩ (rowEnd ⟨4, [], [], .bool true, none⟩) (fun _ _ => false) = true := by kernel_rfl
theorem streamableBounds_row (ρ0 : Rho) (n0 : Nat) (_h0 : ∀ b, 4 ≤ b → ρ0 b = none) : KRowOk (LaidI (rowHp .e streamableBoundsBs) ρ0 n0) Tryz.prog 4 ⟨4, [], [], .bool true, none⟩ :=
  krow_of_ev (E := streamableBoundsE) (X := streamableBoundsX) (m := 1000) (by kernel_rfl) ⟨streamableBoundsE_ok⟩ (streamableBoundsX_ok _) (LaidI.ki rowHp_ro) rfl rfl (by kernel_rfl) streamableBounds_run
theorem streamableBounds_at {W0 W : World} (hsh : W0.ShapedOpen Tryz.prog) (hL : laidMetH Tryz.prog Rows.streamableBoundsRow.laid W0) (hB : RowKit.Below W0.heap.size W0 W) : Calls Tryz.prog 4 #[] W (fun e w' => e = .returned (.bool true) ∧ RowKit.Below W.heap.size W w') := by
  rw [MakeChecks.laidMetH_plain _ _ _ (by kernel_rfl)] at hL
  refine calls_closed_at (bs := streamableBoundsBs) (by kernel_rfl) streamableBounds_row ?_ (by kernel_rfl) hsh hL hB
  intro x hx
  rcases List.mem_cons.1 hx with rfl | hx
  · exact ⟨by decide, "chisel/posture.bad", Rows.laid_chisel_posture_bad, 123, 6, by simp [Rows.streamableBoundsRow], by kernel_rfl, by kernel_rfl, by kernel_rfl⟩
  rcases List.mem_cons.1 hx with rfl | hx
  · exact ⟨by decide, "chisel/posture.still", Rows.laid_chisel_posture_still, 123, 6, by simp [Rows.streamableBoundsRow], by kernel_rfl, by kernel_rfl, by kernel_rfl⟩
  rcases List.mem_cons.1 hx with rfl | hx
  · exact ⟨by decide, "chisel/expr.tests", Rows.laid_chisel_expr_tests, 158, 6, by simp [Rows.streamableBoundsRow], by kernel_rfl, by kernel_rfl, by kernel_rfl⟩
  cases hx
end Go.Proofs.YtiehafgmdbiplaaGreatDoor
