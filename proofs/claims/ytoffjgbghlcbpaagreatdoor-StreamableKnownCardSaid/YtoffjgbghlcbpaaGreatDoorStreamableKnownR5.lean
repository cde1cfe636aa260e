/- Part of the proof that the law StreamableKnown answers true: calls of which it is shown what they give. No condition. -/
import Derived.Test.YtoffjgbghlcbpaaGreatDoorStreamableKnownB
namespace Go.Proofs.YtoffjgbghlcbpaaGreatDoor
open Go Go.Sh
def streamableKnownR17 : KRow := ⟨160, [], [], .bool true, none⟩
theorem streamableKnownR17_run : (ev streamableKnownE streamableKnownX Tryz.prog 1001).f.f 15 streamableKnownR17.args ⟨rowHp (rowHp .e streamableKnownBs) streamableKnownR17.bs, streamableKnownR17.nx, big⟩ (rowEnd streamableKnownR17) (fun _ _ => false) = true := by kernel_rfl
theorem streamableKnownR17_ok (ρ0 : Rho) (n0 : Nat) : KRowOk (LaidI (rowHp .e streamableKnownBs) ρ0 n0) Tryz.prog 15 streamableKnownR17 :=
  krow_of_ev (E := streamableKnownE) (X := streamableKnownX) (m := 1000) (by kernel_rfl) ⟨streamableKnownE_ok⟩ (streamableKnownX_ok _) (LaidI.ki rowHp_ro) (by kernel_rfl) (by kernel_rfl) streamableKnownR17_run
end Go.Proofs.YtoffjgbghlcbpaaGreatDoor
