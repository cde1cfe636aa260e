/- Part of the proof that the law CheckRecursion answers true: evaluations. No condition. -/
import Derived.Test.YtcgdnhkibjldjaaGreatDoorCheckRecursionD
namespace Go.Proofs.YtcgdnhkibjldjaaGreatDoor
open Go Go.Sh
set_option maxRecDepth 10000000 in
theorem cr_5_false : (ev (crEk 5) crY Tryz.prog 4001).f.f 3 [.opq 200, .bool false] ⟨crHp .e crBs, 4, big⟩ (rowEnd ⟨4, [.opq 200, .bool false], [], .bool true, none⟩) (fun _ _ => false) = true := by kernel_rfl
set_option maxRecDepth 10000000 in
theorem cr_6_true : (ev (crEk 6) crY Tryz.prog 4001).f.f 3 [.opq 200, .bool true] ⟨crHp .e crBs, 4, big⟩ (rowEnd ⟨4, [.opq 200, .bool true], [], .bool true, none⟩) (fun _ _ => false) = true := by kernel_rfl
set_option maxRecDepth 10000000 in
theorem cr_11_false : (ev (crEk 11) crY Tryz.prog 4001).f.f 3 [.opq 200, .bool false] ⟨crHp .e crBs, 4, big⟩ (rowEnd ⟨4, [.opq 200, .bool false], [], .bool true, none⟩) (fun _ _ => false) = true := by kernel_rfl
set_option maxRecDepth 10000000 in
theorem cr_12_false : (ev (crEk 12) crY Tryz.prog 4001).f.f 3 [.opq 200, .bool false] ⟨crHp .e crBs, 4, big⟩ (rowEnd ⟨4, [.opq 200, .bool false], [], .bool true, none⟩) (fun _ _ => false) = true := by kernel_rfl
set_option maxRecDepth 10000000 in
theorem cr_13_false : (ev (crEk 13) crY Tryz.prog 4001).f.f 3 [.opq 200, .bool false] ⟨crHp .e crBs, 4, big⟩ (rowEnd ⟨4, [.opq 200, .bool false], [], .bool true, none⟩) (fun _ _ => false) = true := by kernel_rfl
end Go.Proofs.YtcgdnhkibjldjaaGreatDoor
