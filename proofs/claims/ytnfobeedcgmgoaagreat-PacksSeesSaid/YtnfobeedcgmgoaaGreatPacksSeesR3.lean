/- Part of the proof that the law PacksSees answers true: calls of which it is shown what they give. No condition. -/
import Derived.Test.YtnfobeedcgmgoaaGreatPacksSeesB
namespace Go.Proofs.YtnfobeedcgmgoaaGreat
open Go Go.Sh
def packsSeesR4 : KRow := ⟨1532, [], [], .bool true, none⟩
theorem packsSeesR4_run : (ev packsSeesE packsSeesX Tryz.prog 1001).f 13 packsSeesR4.args ⟨rowHp (rowHp .e packsSeesBs) packsSeesR4.bs, packsSeesR4.nx, big⟩ (rowEnd packsSeesR4) (fun _ _ => false) = true := by kernel_rfl
theorem packsSeesR4_ok (ρ0 : Rho) (n0 : Nat) : KRowOk (LaidI (rowHp .e packsSeesBs) ρ0 n0) Tryz.prog 13 packsSeesR4 :=
  krow_of_ev (E := packsSeesE) (X := packsSeesX) (m := 1000) (by kernel_rfl) ⟨packsSeesE_ok⟩ (packsSeesX_ok _) (LaidI.ki rowHp_ro) (by kernel_rfl) (by kernel_rfl) packsSeesR4_run
end Go.Proofs.YtnfobeedcgmgoaaGreat
