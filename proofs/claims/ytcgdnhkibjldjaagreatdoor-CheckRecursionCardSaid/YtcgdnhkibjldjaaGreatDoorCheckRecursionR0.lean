/- Part of the proof that the law CheckRecursion answers true: calls of which it is shown what they give. No condition. -/
import Derived.Test.YtcgdnhkibjldjaaGreatDoorCheckRecursionD
namespace Go.Proofs.YtcgdnhkibjldjaaGreatDoor
open Go Go.Sh
theorem crR0_run : (ev crE crX Tryz.prog 1001).f.f 10 crR0.args ⟨crHp .e crBs, 4, big⟩ (rowEnd crR0) (fun _ _ => false) = true := by kernel_rfl
end Go.Proofs.YtcgdnhkibjldjaaGreatDoor
