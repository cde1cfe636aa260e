/- Part of the proof that the law CheckKnown answers true: calls of which it is shown what they give. No condition. -/
import Derived.Test.YtbnplpeodjknaaaGreatDoorCheckKnownB
namespace Go.Proofs.YtbnplpeodjknaaaGreatDoor
open Go Go.Sh
def checkKnownR17 : KRow := ⟨90, [], [], .bool true, none⟩
theorem checkKnownR17_run : (ev checkKnownE checkKnownX Tryz.prog 1001).f.f 12 checkKnownR17.args ⟨rowHp (rowHp .e checkKnownBs) checkKnownR17.bs, checkKnownR17.nx, big⟩ (rowEnd checkKnownR17) (fun _ _ => false) = true := by kernel_rfl
theorem checkKnownR17_ok (ρ0 : Rho) (n0 : Nat) : KRowOk (LaidI (rowHp .e checkKnownBs) ρ0 n0) Tryz.prog 12 checkKnownR17 :=
  krow_of_ev (E := checkKnownE) (X := checkKnownX) (m := 1000) (by kernel_rfl) ⟨checkKnownE_ok⟩ (checkKnownX_ok _) (LaidI.ki rowHp_ro) rfl (by kernel_rfl) (by kernel_rfl) checkKnownR17_run
end Go.Proofs.YtbnplpeodjknaaaGreatDoor
