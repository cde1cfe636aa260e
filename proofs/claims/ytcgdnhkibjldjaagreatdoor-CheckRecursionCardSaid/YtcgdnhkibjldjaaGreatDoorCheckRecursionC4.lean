/- Part of the proof that the law CheckRecursion answers true: evaluations. No condition. -/
import Derived.Test.YtcgdnhkibjldjaaGreatDoorCheckRecursionD
namespace Go.Proofs.YtcgdnhkibjldjaaGreatDoor
open Go Go.Sh
set_option maxRecDepth 10000000 in
theorem cr_8_false : (ev (crEk 8) crY Tryz.prog 4001).f.f 3 [.opq 200, .bool false] ⟨crHp .e crBs, 4, big⟩ (rowEnd ⟨4, [.opq 200, .bool false], [], .bool true, none⟩) (fun _ _ => false) = true := by kernel_rfl
set_option maxRecDepth 10000000 in
theorem cr_14_false : (ev (crEk 14) crY Tryz.prog 4001).f.f 3 [.opq 200, .bool false] ⟨crHp .e crBs, 4, big⟩ (rowEnd ⟨4, [.opq 200, .bool false], [], .bool true, none⟩) (fun _ _ => false) = true := by kernel_rfl
set_option maxRecDepth 10000000 in
theorem cr_15_false : (ev (crEk 15) crY Tryz.prog 4001).f.f 3 [.opq 200, .bool false] ⟨crHp .e crBs, 4, big⟩ (rowEnd ⟨4, [.opq 200, .bool false], [], .bool true, none⟩) (fun _ _ => false) = true := by kernel_rfl
set_option maxRecDepth 10000000 in
theorem cr_16_false : (ev (crEk 16) crY Tryz.prog 4001).f.f 3 [.opq 200, .bool false] ⟨crHp .e crBs, 4, big⟩ (rowEnd ⟨4, [.opq 200, .bool false], [], .bool true, none⟩) (fun _ _ => false) = true := by kernel_rfl
end Go.Proofs.YtcgdnhkibjldjaaGreatDoor
