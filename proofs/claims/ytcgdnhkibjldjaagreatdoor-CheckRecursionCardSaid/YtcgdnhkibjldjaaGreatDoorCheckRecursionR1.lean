/- Part of the proof that the law CheckRecursion answers true: calls of which it is shown what they give. No condition. -/
import Derived.Test.YtcgdnhkibjldjaaGreatDoorCheckRecursionD
namespace Go.Proofs.YtcgdnhkibjldjaaGreatDoor
open Go Go.Sh
theorem crR1_run : (ev crE crX Tryz.prog 1001).f.f 74 crR1.args ⟨crHp .e crBs, 4, big⟩ (rowEnd crR1) (fun _ _ => false) = true := by kernel_rfl
theorem crR2_run : (ev crE crX Tryz.prog 1001).f.f 74 crR2.args ⟨crHp .e crBs, 4, big⟩ (rowEnd crR2) (fun _ _ => false) = true := by kernel_rfl
theorem crR3_run : (ev crE crX Tryz.prog 1001).f.f 74 crR3.args ⟨crHp .e crBs, 4, big⟩ (rowEnd crR3) (fun _ _ => false) = true := by kernel_rfl
theorem crR4_run : (ev crE crX Tryz.prog 1001).f.f 74 crR4.args ⟨crHp .e crBs, 4, big⟩ (rowEnd crR4) (fun _ _ => false) = true := by kernel_rfl
theorem crR5_run : (ev crE crX Tryz.prog 1001).f.f 74 crR5.args ⟨crHp .e crBs, 4, big⟩ (rowEnd crR5) (fun _ _ => false) = true := by kernel_rfl
theorem crR6_run : (ev crE crX Tryz.prog 1001).f.f 74 crR6.args ⟨crHp .e crBs, 4, big⟩ (rowEnd crR6) (fun _ _ => false) = true := by kernel_rfl
theorem crR7_run : (ev crE crX Tryz.prog 1001).f.f 74 crR7.args ⟨crHp .e crBs, 4, big⟩ (rowEnd crR7) (fun _ _ => false) = true := by kernel_rfl
theorem crR8_run : (ev crE crX Tryz.prog 1001).f.f 74 crR8.args ⟨crHp .e crBs, 4, big⟩ (rowEnd crR8) (fun _ _ => false) = true := by kernel_rfl
theorem crR9_run : (ev crE crX Tryz.prog 1001).f.f 74 crR9.args ⟨crHp .e crBs, 4, big⟩ (rowEnd crR9) (fun _ _ => false) = true := by kernel_rfl
theorem crR10_run : (ev crE crX Tryz.prog 1001).f.f 74 crR10.args ⟨crHp .e crBs, 4, big⟩ (rowEnd crR10) (fun _ _ => false) = true := by kernel_rfl
theorem crR11_run : (ev crE crX Tryz.prog 1001).f.f 74 crR11.args ⟨crHp .e crBs, 4, big⟩ (rowEnd crR11) (fun _ _ => false) = true := by kernel_rfl
theorem crR12_run : (ev crE crX Tryz.prog 1001).f.f 74 crR12.args ⟨crHp .e crBs, 4, big⟩ (rowEnd crR12) (fun _ _ => false) = true := by kernel_rfl
theorem crR13_run : (ev crE crX Tryz.prog 1001).f.f 74 crR13.args ⟨crHp .e crBs, 4, big⟩ (rowEnd crR13) (fun _ _ => false) = true := by kernel_rfl
theorem crR14_run : (ev crE crX Tryz.prog 1001).f.f 74 crR14.args ⟨crHp .e crBs, 4, big⟩ (rowEnd crR14) (fun _ _ => false) = true := by kernel_rfl
theorem crR15_run : (ev crE crX Tryz.prog 1001).f.f 74 crR15.args ⟨crHp .e crBs, 4, big⟩ (rowEnd crR15) (fun _ _ => false) = true := by kernel_rfl
theorem crR16_run : (ev crE crX Tryz.prog 1001).f.f 74 crR16.args ⟨crHp .e crBs, 4, big⟩ (rowEnd crR16) (fun _ _ => false) = true := by kernel_rfl
theorem crR17_run : (ev crE crX Tryz.prog 1001).f.f 74 crR17.args ⟨crHp .e crBs, 4, big⟩ (rowEnd crR17) (fun _ _ => false) = true := by kernel_rfl
theorem crR18_run : (ev crE crX Tryz.prog 1001).f.f 74 crR18.args ⟨crHp .e crBs, 4, big⟩ (rowEnd crR18) (fun _ _ => false) = true := by kernel_rfl
theorem crR19_run : (ev crE crX Tryz.prog 1001).f.f 74 crR19.args ⟨crHp .e crBs, 4, big⟩ (rowEnd crR19) (fun _ _ => false) = true := by kernel_rfl
theorem crR20_run : (ev crE crX Tryz.prog 1001).f.f 74 crR20.args ⟨crHp .e crBs, 4, big⟩ (rowEnd crR20) (fun _ _ => false) = true := by kernel_rfl
theorem crR21_run : (ev crE crX Tryz.prog 1001).f.f 74 crR21.args ⟨crHp .e crBs, 4, big⟩ (rowEnd crR21) (fun _ _ => false) = true := by kernel_rfl
theorem crR22_run : (ev crE crX Tryz.prog 1001).f.f 74 crR22.args ⟨crHp .e crBs, 4, big⟩ (rowEnd crR22) (fun _ _ => false) = true := by kernel_rfl
theorem crR23_run : (ev crE crX Tryz.prog 1001).f.f 74 crR23.args ⟨crHp .e crBs, 4, big⟩ (rowEnd crR23) (fun _ _ => false) = true := by kernel_rfl
theorem crR24_run : (ev crE crX Tryz.prog 1001).f.f 74 crR24.args ⟨crHp .e crBs, 4, big⟩ (rowEnd crR24) (fun _ _ => false) = true := by kernel_rfl
theorem crR25_run : (ev crE crX Tryz.prog 1001).f.f 74 crR25.args ⟨crHp .e crBs, 4, big⟩ (rowEnd crR25) (fun _ _ => false) = true := by kernel_rfl
theorem crR26_run : (ev crE crX Tryz.prog 1001).f.f 74 crR26.args ⟨crHp .e crBs, 4, big⟩ (rowEnd crR26) (fun _ _ => false) = true := by kernel_rfl
end Go.Proofs.YtcgdnhkibjldjaaGreatDoor
