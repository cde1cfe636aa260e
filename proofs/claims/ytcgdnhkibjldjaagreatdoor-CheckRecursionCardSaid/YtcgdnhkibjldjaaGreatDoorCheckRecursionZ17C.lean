/- Part of the proof that the law CheckRecursion answers true: the longest evaluation. No condition. -/
import Derived.Test.YtcgdnhkibjldjaaGreatDoorCheckRecursionZ17D
namespace Go.Proofs.YtcgdnhkibjldjaaGreatDoor
open Go Go.Sh
set_option maxRecDepth 10000000 in
theorem cr_17_true : (ev (crEk 17) crZ17 Tryz.prog 4001).f.f 3 [.opq 200, .bool true] ⟨crHp .e crBs, 4, big⟩ (rowEnd ⟨4, [.opq 200, .bool true], [], .bool true, none⟩) (fun _ _ => false) = true := by kernel_rfl
end Go.Proofs.YtcgdnhkibjldjaaGreatDoor
