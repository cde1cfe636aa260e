/- Part of the proof that the law CheckRecursion answers true: the calls that are known. No condition. -/
import Derived.Test.YtcgdnhkibjldjaaGreatDoorCheckRecursionB
import Derived.Test.YtcgdnhkibjldjaaGreatDoorCheckRecursionR0
import Derived.Test.YtcgdnhkibjldjaaGreatDoorCheckRecursionR1
import Derived.Test.YtcgdnhkibjldjaaGreatDoorCheckRecursionR2
namespace Go.Proofs.YtcgdnhkibjldjaaGreatDoor
open Go Go.Sh
theorem crR0_ok [Opq] {ρ0 : Rho} (n0 : Nat) (h0 : ∀ b, 4 ≤ b → ρ0 b = none) : KRowOk (LaidI (rowHp .e crBs) ρ0 n0) Tryz.prog 10 crR0 :=
  krow_any_of_ev (E := crE) (X := crX) (m := 1000) (by kernel_rfl) ⟨crE_ok⟩ (crX_ok _) rowHp_ro (by kernel_rfl) h0 rfl rfl rfl (by kernel_rfl) (by kernel_rfl) (by kernel_rfl) (by rw [← crHp_eq]; exact crR0_run)
theorem crR1_ok [Opq] {ρ0 : Rho} (n0 : Nat) (h0 : ∀ b, 4 ≤ b → ρ0 b = none) : KRowOk (LaidI (rowHp .e crBs) ρ0 n0) Tryz.prog 74 crR1 :=
  krow_any_of_ev (E := crE) (X := crX) (m := 1000) (by kernel_rfl) ⟨crE_ok⟩ (crX_ok _) rowHp_ro (by kernel_rfl) h0 rfl rfl rfl (by kernel_rfl) (by kernel_rfl) (by kernel_rfl) (by rw [← crHp_eq]; exact crR1_run)
theorem crR2_ok [Opq] {ρ0 : Rho} (n0 : Nat) (h0 : ∀ b, 4 ≤ b → ρ0 b = none) : KRowOk (LaidI (rowHp .e crBs) ρ0 n0) Tryz.prog 74 crR2 :=
  krow_any_of_ev (E := crE) (X := crX) (m := 1000) (by kernel_rfl) ⟨crE_ok⟩ (crX_ok _) rowHp_ro (by kernel_rfl) h0 rfl rfl rfl (by kernel_rfl) (by kernel_rfl) (by kernel_rfl) (by rw [← crHp_eq]; exact crR2_run)
theorem crR3_ok [Opq] {ρ0 : Rho} (n0 : Nat) (h0 : ∀ b, 4 ≤ b → ρ0 b = none) : KRowOk (LaidI (rowHp .e crBs) ρ0 n0) Tryz.prog 74 crR3 :=
  krow_any_of_ev (E := crE) (X := crX) (m := 1000) (by kernel_rfl) ⟨crE_ok⟩ (crX_ok _) rowHp_ro (by kernel_rfl) h0 rfl rfl rfl (by kernel_rfl) (by kernel_rfl) (by kernel_rfl) (by rw [← crHp_eq]; exact crR3_run)
theorem crR4_ok [Opq] {ρ0 : Rho} (n0 : Nat) (h0 : ∀ b, 4 ≤ b → ρ0 b = none) : KRowOk (LaidI (rowHp .e crBs) ρ0 n0) Tryz.prog 74 crR4 :=
  krow_any_of_ev (E := crE) (X := crX) (m := 1000) (by kernel_rfl) ⟨crE_ok⟩ (crX_ok _) rowHp_ro (by kernel_rfl) h0 rfl rfl rfl (by kernel_rfl) (by kernel_rfl) (by kernel_rfl) (by rw [← crHp_eq]; exact crR4_run)
theorem crR5_ok [Opq] {ρ0 : Rho} (n0 : Nat) (h0 : ∀ b, 4 ≤ b → ρ0 b = none) : KRowOk (LaidI (rowHp .e crBs) ρ0 n0) Tryz.prog 74 crR5 :=
  krow_any_of_ev (E := crE) (X := crX) (m := 1000) (by kernel_rfl) ⟨crE_ok⟩ (crX_ok _) rowHp_ro (by kernel_rfl) h0 rfl rfl rfl (by kernel_rfl) (by kernel_rfl) (by kernel_rfl) (by rw [← crHp_eq]; exact crR5_run)
theorem crR6_ok [Opq] {ρ0 : Rho} (n0 : Nat) (h0 : ∀ b, 4 ≤ b → ρ0 b = none) : KRowOk (LaidI (rowHp .e crBs) ρ0 n0) Tryz.prog 74 crR6 :=
  krow_any_of_ev (E := crE) (X := crX) (m := 1000) (by kernel_rfl) ⟨crE_ok⟩ (crX_ok _) rowHp_ro (by kernel_rfl) h0 rfl rfl rfl (by kernel_rfl) (by kernel_rfl) (by kernel_rfl) (by rw [← crHp_eq]; exact crR6_run)
theorem crR7_ok [Opq] {ρ0 : Rho} (n0 : Nat) (h0 : ∀ b, 4 ≤ b → ρ0 b = none) : KRowOk (LaidI (rowHp .e crBs) ρ0 n0) Tryz.prog 74 crR7 :=
  krow_any_of_ev (E := crE) (X := crX) (m := 1000) (by kernel_rfl) ⟨crE_ok⟩ (crX_ok _) rowHp_ro (by kernel_rfl) h0 rfl rfl rfl (by kernel_rfl) (by kernel_rfl) (by kernel_rfl) (by rw [← crHp_eq]; exact crR7_run)
theorem crR8_ok [Opq] {ρ0 : Rho} (n0 : Nat) (h0 : ∀ b, 4 ≤ b → ρ0 b = none) : KRowOk (LaidI (rowHp .e crBs) ρ0 n0) Tryz.prog 74 crR8 :=
  krow_any_of_ev (E := crE) (X := crX) (m := 1000) (by kernel_rfl) ⟨crE_ok⟩ (crX_ok _) rowHp_ro (by kernel_rfl) h0 rfl rfl rfl (by kernel_rfl) (by kernel_rfl) (by kernel_rfl) (by rw [← crHp_eq]; exact crR8_run)
theorem crR9_ok [Opq] {ρ0 : Rho} (n0 : Nat) (h0 : ∀ b, 4 ≤ b → ρ0 b = none) : KRowOk (LaidI (rowHp .e crBs) ρ0 n0) Tryz.prog 74 crR9 :=
  krow_any_of_ev (E := crE) (X := crX) (m := 1000) (by kernel_rfl) ⟨crE_ok⟩ (crX_ok _) rowHp_ro (by kernel_rfl) h0 rfl rfl rfl (by kernel_rfl) (by kernel_rfl) (by kernel_rfl) (by rw [← crHp_eq]; exact crR9_run)
theorem crR10_ok [Opq] {ρ0 : Rho} (n0 : Nat) (h0 : ∀ b, 4 ≤ b → ρ0 b = none) : KRowOk (LaidI (rowHp .e crBs) ρ0 n0) Tryz.prog 74 crR10 :=
  krow_any_of_ev (E := crE) (X := crX) (m := 1000) (by kernel_rfl) ⟨crE_ok⟩ (crX_ok _) rowHp_ro (by kernel_rfl) h0 rfl rfl rfl (by kernel_rfl) (by kernel_rfl) (by kernel_rfl) (by rw [← crHp_eq]; exact crR10_run)
theorem crR11_ok [Opq] {ρ0 : Rho} (n0 : Nat) (h0 : ∀ b, 4 ≤ b → ρ0 b = none) : KRowOk (LaidI (rowHp .e crBs) ρ0 n0) Tryz.prog 74 crR11 :=
  krow_any_of_ev (E := crE) (X := crX) (m := 1000) (by kernel_rfl) ⟨crE_ok⟩ (crX_ok _) rowHp_ro (by kernel_rfl) h0 rfl rfl rfl (by kernel_rfl) (by kernel_rfl) (by kernel_rfl) (by rw [← crHp_eq]; exact crR11_run)
theorem crR12_ok [Opq] {ρ0 : Rho} (n0 : Nat) (h0 : ∀ b, 4 ≤ b → ρ0 b = none) : KRowOk (LaidI (rowHp .e crBs) ρ0 n0) Tryz.prog 74 crR12 :=
  krow_any_of_ev (E := crE) (X := crX) (m := 1000) (by kernel_rfl) ⟨crE_ok⟩ (crX_ok _) rowHp_ro (by kernel_rfl) h0 rfl rfl rfl (by kernel_rfl) (by kernel_rfl) (by kernel_rfl) (by rw [← crHp_eq]; exact crR12_run)
theorem crR13_ok [Opq] {ρ0 : Rho} (n0 : Nat) (h0 : ∀ b, 4 ≤ b → ρ0 b = none) : KRowOk (LaidI (rowHp .e crBs) ρ0 n0) Tryz.prog 74 crR13 :=
  krow_any_of_ev (E := crE) (X := crX) (m := 1000) (by kernel_rfl) ⟨crE_ok⟩ (crX_ok _) rowHp_ro (by kernel_rfl) h0 rfl rfl rfl (by kernel_rfl) (by kernel_rfl) (by kernel_rfl) (by rw [← crHp_eq]; exact crR13_run)
theorem crR14_ok [Opq] {ρ0 : Rho} (n0 : Nat) (h0 : ∀ b, 4 ≤ b → ρ0 b = none) : KRowOk (LaidI (rowHp .e crBs) ρ0 n0) Tryz.prog 74 crR14 :=
  krow_any_of_ev (E := crE) (X := crX) (m := 1000) (by kernel_rfl) ⟨crE_ok⟩ (crX_ok _) rowHp_ro (by kernel_rfl) h0 rfl rfl rfl (by kernel_rfl) (by kernel_rfl) (by kernel_rfl) (by rw [← crHp_eq]; exact crR14_run)
theorem crR15_ok [Opq] {ρ0 : Rho} (n0 : Nat) (h0 : ∀ b, 4 ≤ b → ρ0 b = none) : KRowOk (LaidI (rowHp .e crBs) ρ0 n0) Tryz.prog 74 crR15 :=
  krow_any_of_ev (E := crE) (X := crX) (m := 1000) (by kernel_rfl) ⟨crE_ok⟩ (crX_ok _) rowHp_ro (by kernel_rfl) h0 rfl rfl rfl (by kernel_rfl) (by kernel_rfl) (by kernel_rfl) (by rw [← crHp_eq]; exact crR15_run)
theorem crR16_ok [Opq] {ρ0 : Rho} (n0 : Nat) (h0 : ∀ b, 4 ≤ b → ρ0 b = none) : KRowOk (LaidI (rowHp .e crBs) ρ0 n0) Tryz.prog 74 crR16 :=
  krow_any_of_ev (E := crE) (X := crX) (m := 1000) (by kernel_rfl) ⟨crE_ok⟩ (crX_ok _) rowHp_ro (by kernel_rfl) h0 rfl rfl rfl (by kernel_rfl) (by kernel_rfl) (by kernel_rfl) (by rw [← crHp_eq]; exact crR16_run)
theorem crR17_ok [Opq] {ρ0 : Rho} (n0 : Nat) (h0 : ∀ b, 4 ≤ b → ρ0 b = none) : KRowOk (LaidI (rowHp .e crBs) ρ0 n0) Tryz.prog 74 crR17 :=
  krow_any_of_ev (E := crE) (X := crX) (m := 1000) (by kernel_rfl) ⟨crE_ok⟩ (crX_ok _) rowHp_ro (by kernel_rfl) h0 rfl rfl rfl (by kernel_rfl) (by kernel_rfl) (by kernel_rfl) (by rw [← crHp_eq]; exact crR17_run)
theorem crR18_ok [Opq] {ρ0 : Rho} (n0 : Nat) (h0 : ∀ b, 4 ≤ b → ρ0 b = none) : KRowOk (LaidI (rowHp .e crBs) ρ0 n0) Tryz.prog 74 crR18 :=
  krow_any_of_ev (E := crE) (X := crX) (m := 1000) (by kernel_rfl) ⟨crE_ok⟩ (crX_ok _) rowHp_ro (by kernel_rfl) h0 rfl rfl rfl (by kernel_rfl) (by kernel_rfl) (by kernel_rfl) (by rw [← crHp_eq]; exact crR18_run)
theorem crR19_ok [Opq] {ρ0 : Rho} (n0 : Nat) (h0 : ∀ b, 4 ≤ b → ρ0 b = none) : KRowOk (LaidI (rowHp .e crBs) ρ0 n0) Tryz.prog 74 crR19 :=
  krow_any_of_ev (E := crE) (X := crX) (m := 1000) (by kernel_rfl) ⟨crE_ok⟩ (crX_ok _) rowHp_ro (by kernel_rfl) h0 rfl rfl rfl (by kernel_rfl) (by kernel_rfl) (by kernel_rfl) (by rw [← crHp_eq]; exact crR19_run)
theorem crR20_ok [Opq] {ρ0 : Rho} (n0 : Nat) (h0 : ∀ b, 4 ≤ b → ρ0 b = none) : KRowOk (LaidI (rowHp .e crBs) ρ0 n0) Tryz.prog 74 crR20 :=
  krow_any_of_ev (E := crE) (X := crX) (m := 1000) (by kernel_rfl) ⟨crE_ok⟩ (crX_ok _) rowHp_ro (by kernel_rfl) h0 rfl rfl rfl (by kernel_rfl) (by kernel_rfl) (by kernel_rfl) (by rw [← crHp_eq]; exact crR20_run)
theorem crR21_ok [Opq] {ρ0 : Rho} (n0 : Nat) (h0 : ∀ b, 4 ≤ b → ρ0 b = none) : KRowOk (LaidI (rowHp .e crBs) ρ0 n0) Tryz.prog 74 crR21 :=
  krow_any_of_ev (E := crE) (X := crX) (m := 1000) (by kernel_rfl) ⟨crE_ok⟩ (crX_ok _) rowHp_ro (by kernel_rfl) h0 rfl rfl rfl (by kernel_rfl) (by kernel_rfl) (by kernel_rfl) (by rw [← crHp_eq]; exact crR21_run)
theorem crR22_ok [Opq] {ρ0 : Rho} (n0 : Nat) (h0 : ∀ b, 4 ≤ b → ρ0 b = none) : KRowOk (LaidI (rowHp .e crBs) ρ0 n0) Tryz.prog 74 crR22 :=
  krow_any_of_ev (E := crE) (X := crX) (m := 1000) (by kernel_rfl) ⟨crE_ok⟩ (crX_ok _) rowHp_ro (by kernel_rfl) h0 rfl rfl rfl (by kernel_rfl) (by kernel_rfl) (by kernel_rfl) (by rw [← crHp_eq]; exact crR22_run)
theorem crR23_ok [Opq] {ρ0 : Rho} (n0 : Nat) (h0 : ∀ b, 4 ≤ b → ρ0 b = none) : KRowOk (LaidI (rowHp .e crBs) ρ0 n0) Tryz.prog 74 crR23 :=
  krow_any_of_ev (E := crE) (X := crX) (m := 1000) (by kernel_rfl) ⟨crE_ok⟩ (crX_ok _) rowHp_ro (by kernel_rfl) h0 rfl rfl rfl (by kernel_rfl) (by kernel_rfl) (by kernel_rfl) (by rw [← crHp_eq]; exact crR23_run)
theorem crR24_ok [Opq] {ρ0 : Rho} (n0 : Nat) (h0 : ∀ b, 4 ≤ b → ρ0 b = none) : KRowOk (LaidI (rowHp .e crBs) ρ0 n0) Tryz.prog 74 crR24 :=
  krow_any_of_ev (E := crE) (X := crX) (m := 1000) (by kernel_rfl) ⟨crE_ok⟩ (crX_ok _) rowHp_ro (by kernel_rfl) h0 rfl rfl rfl (by kernel_rfl) (by kernel_rfl) (by kernel_rfl) (by rw [← crHp_eq]; exact crR24_run)
theorem crR25_ok [Opq] {ρ0 : Rho} (n0 : Nat) (h0 : ∀ b, 4 ≤ b → ρ0 b = none) : KRowOk (LaidI (rowHp .e crBs) ρ0 n0) Tryz.prog 74 crR25 :=
  krow_any_of_ev (E := crE) (X := crX) (m := 1000) (by kernel_rfl) ⟨crE_ok⟩ (crX_ok _) rowHp_ro (by kernel_rfl) h0 rfl rfl rfl (by kernel_rfl) (by kernel_rfl) (by kernel_rfl) (by rw [← crHp_eq]; exact crR25_run)
theorem crR26_ok [Opq] {ρ0 : Rho} (n0 : Nat) (h0 : ∀ b, 4 ≤ b → ρ0 b = none) : KRowOk (LaidI (rowHp .e crBs) ρ0 n0) Tryz.prog 74 crR26 :=
  krow_any_of_ev (E := crE) (X := crX) (m := 1000) (by kernel_rfl) ⟨crE_ok⟩ (crX_ok _) rowHp_ro (by kernel_rfl) h0 rfl rfl rfl (by kernel_rfl) (by kernel_rfl) (by kernel_rfl) (by rw [← crHp_eq]; exact crR26_run)
theorem crR27_ok [Opq] {ρ0 : Rho} (n0 : Nat) (h0 : ∀ b, 4 ≤ b → ρ0 b = none) : KRowOk (LaidI (rowHp .e crBs) ρ0 n0) Tryz.prog 60 crR27 :=
  krow_any_of_ev (E := crE) (X := crX) (m := 1000) (by kernel_rfl) ⟨crE_ok⟩ (crX_ok _) rowHp_ro (by kernel_rfl) h0 rfl rfl rfl (by kernel_rfl) (by kernel_rfl) (by kernel_rfl) (by rw [← crHp_eq]; exact crR27_run)
theorem crR28_ok [Opq] {ρ0 : Rho} (n0 : Nat) (h0 : ∀ b, 4 ≤ b → ρ0 b = none) : KRowOk (LaidI (rowHp .e crBs) ρ0 n0) Tryz.prog 60 crR28 :=
  krow_any_of_ev (E := crE) (X := crX) (m := 1000) (by kernel_rfl) ⟨crE_ok⟩ (crX_ok _) rowHp_ro (by kernel_rfl) h0 rfl rfl rfl (by kernel_rfl) (by kernel_rfl) (by kernel_rfl) (by rw [← crHp_eq]; exact crR28_run)
theorem crR29_ok [Opq] {ρ0 : Rho} (n0 : Nat) (h0 : ∀ b, 4 ≤ b → ρ0 b = none) : KRowOk (LaidI (rowHp .e crBs) ρ0 n0) Tryz.prog 60 crR29 :=
  krow_any_of_ev (E := crE) (X := crX) (m := 1000) (by kernel_rfl) ⟨crE_ok⟩ (crX_ok _) rowHp_ro (by kernel_rfl) h0 rfl rfl rfl (by kernel_rfl) (by kernel_rfl) (by kernel_rfl) (by rw [← crHp_eq]; exact crR29_run)
theorem crR30_ok [Opq] {ρ0 : Rho} (n0 : Nat) (h0 : ∀ b, 4 ≤ b → ρ0 b = none) : KRowOk (LaidI (rowHp .e crBs) ρ0 n0) Tryz.prog 60 crR30 :=
  krow_any_of_ev (E := crE) (X := crX) (m := 1000) (by kernel_rfl) ⟨crE_ok⟩ (crX_ok _) rowHp_ro (by kernel_rfl) h0 rfl rfl rfl (by kernel_rfl) (by kernel_rfl) (by kernel_rfl) (by rw [← crHp_eq]; exact crR30_run)
theorem crR31_ok [Opq] {ρ0 : Rho} (n0 : Nat) (h0 : ∀ b, 4 ≤ b → ρ0 b = none) : KRowOk (LaidI (rowHp .e crBs) ρ0 n0) Tryz.prog 60 crR31 :=
  krow_any_of_ev (E := crE) (X := crX) (m := 1000) (by kernel_rfl) ⟨crE_ok⟩ (crX_ok _) rowHp_ro (by kernel_rfl) h0 rfl rfl rfl (by kernel_rfl) (by kernel_rfl) (by kernel_rfl) (by rw [← crHp_eq]; exact crR31_run)
theorem crR32_ok [Opq] {ρ0 : Rho} (n0 : Nat) (h0 : ∀ b, 4 ≤ b → ρ0 b = none) : KRowOk (LaidI (rowHp .e crBs) ρ0 n0) Tryz.prog 60 crR32 :=
  krow_any_of_ev (E := crE) (X := crX) (m := 1000) (by kernel_rfl) ⟨crE_ok⟩ (crX_ok _) rowHp_ro (by kernel_rfl) h0 rfl rfl rfl (by kernel_rfl) (by kernel_rfl) (by kernel_rfl) (by rw [← crHp_eq]; exact crR32_run)
theorem crR33_ok [Opq] {ρ0 : Rho} (n0 : Nat) (h0 : ∀ b, 4 ≤ b → ρ0 b = none) : KRowOk (LaidI (rowHp .e crBs) ρ0 n0) Tryz.prog 60 crR33 :=
  krow_any_of_ev (E := crE) (X := crX) (m := 1000) (by kernel_rfl) ⟨crE_ok⟩ (crX_ok _) rowHp_ro (by kernel_rfl) h0 rfl rfl rfl (by kernel_rfl) (by kernel_rfl) (by kernel_rfl) (by rw [← crHp_eq]; exact crR33_run)
theorem crR34_ok [Opq] {ρ0 : Rho} (n0 : Nat) (h0 : ∀ b, 4 ≤ b → ρ0 b = none) : KRowOk (LaidI (rowHp .e crBs) ρ0 n0) Tryz.prog 60 crR34 :=
  krow_any_of_ev (E := crE) (X := crX) (m := 1000) (by kernel_rfl) ⟨crE_ok⟩ (crX_ok _) rowHp_ro (by kernel_rfl) h0 rfl rfl rfl (by kernel_rfl) (by kernel_rfl) (by kernel_rfl) (by rw [← crHp_eq]; exact crR34_run)
theorem crR35_ok [Opq] {ρ0 : Rho} (n0 : Nat) (h0 : ∀ b, 4 ≤ b → ρ0 b = none) : KRowOk (LaidI (rowHp .e crBs) ρ0 n0) Tryz.prog 60 crR35 :=
  krow_any_of_ev (E := crE) (X := crX) (m := 1000) (by kernel_rfl) ⟨crE_ok⟩ (crX_ok _) rowHp_ro (by kernel_rfl) h0 rfl rfl rfl (by kernel_rfl) (by kernel_rfl) (by kernel_rfl) (by rw [← crHp_eq]; exact crR35_run)
theorem crR36_ok [Opq] {ρ0 : Rho} (n0 : Nat) (h0 : ∀ b, 4 ≤ b → ρ0 b = none) : KRowOk (LaidI (rowHp .e crBs) ρ0 n0) Tryz.prog 60 crR36 :=
  krow_any_of_ev (E := crE) (X := crX) (m := 1000) (by kernel_rfl) ⟨crE_ok⟩ (crX_ok _) rowHp_ro (by kernel_rfl) h0 rfl rfl rfl (by kernel_rfl) (by kernel_rfl) (by kernel_rfl) (by rw [← crHp_eq]; exact crR36_run)
theorem crR37_ok [Opq] {ρ0 : Rho} (n0 : Nat) (h0 : ∀ b, 4 ≤ b → ρ0 b = none) : KRowOk (LaidI (rowHp .e crBs) ρ0 n0) Tryz.prog 60 crR37 :=
  krow_any_of_ev (E := crE) (X := crX) (m := 1000) (by kernel_rfl) ⟨crE_ok⟩ (crX_ok _) rowHp_ro (by kernel_rfl) h0 rfl rfl rfl (by kernel_rfl) (by kernel_rfl) (by kernel_rfl) (by rw [← crHp_eq]; exact crR37_run)
theorem crR38_ok [Opq] {ρ0 : Rho} (n0 : Nat) (h0 : ∀ b, 4 ≤ b → ρ0 b = none) : KRowOk (LaidI (rowHp .e crBs) ρ0 n0) Tryz.prog 60 crR38 :=
  krow_any_of_ev (E := crE) (X := crX) (m := 1000) (by kernel_rfl) ⟨crE_ok⟩ (crX_ok _) rowHp_ro (by kernel_rfl) h0 rfl rfl rfl (by kernel_rfl) (by kernel_rfl) (by kernel_rfl) (by rw [← crHp_eq]; exact crR38_run)
theorem crR39_ok [Opq] {ρ0 : Rho} (n0 : Nat) (h0 : ∀ b, 4 ≤ b → ρ0 b = none) : KRowOk (LaidI (rowHp .e crBs) ρ0 n0) Tryz.prog 60 crR39 :=
  krow_any_of_ev (E := crE) (X := crX) (m := 1000) (by kernel_rfl) ⟨crE_ok⟩ (crX_ok _) rowHp_ro (by kernel_rfl) h0 rfl rfl rfl (by kernel_rfl) (by kernel_rfl) (by kernel_rfl) (by rw [← crHp_eq]; exact crR39_run)
theorem crR40_ok [Opq] {ρ0 : Rho} (n0 : Nat) (h0 : ∀ b, 4 ≤ b → ρ0 b = none) : KRowOk (LaidI (rowHp .e crBs) ρ0 n0) Tryz.prog 60 crR40 :=
  krow_any_of_ev (E := crE) (X := crX) (m := 1000) (by kernel_rfl) ⟨crE_ok⟩ (crX_ok _) rowHp_ro (by kernel_rfl) h0 rfl rfl rfl (by kernel_rfl) (by kernel_rfl) (by kernel_rfl) (by rw [← crHp_eq]; exact crR40_run)
theorem crR41_ok [Opq] {ρ0 : Rho} (n0 : Nat) (h0 : ∀ b, 4 ≤ b → ρ0 b = none) : KRowOk (LaidI (rowHp .e crBs) ρ0 n0) Tryz.prog 60 crR41 :=
  krow_any_of_ev (E := crE) (X := crX) (m := 1000) (by kernel_rfl) ⟨crE_ok⟩ (crX_ok _) rowHp_ro (by kernel_rfl) h0 rfl rfl rfl (by kernel_rfl) (by kernel_rfl) (by kernel_rfl) (by rw [← crHp_eq]; exact crR41_run)
theorem crR42_ok [Opq] {ρ0 : Rho} (n0 : Nat) (h0 : ∀ b, 4 ≤ b → ρ0 b = none) : KRowOk (LaidI (rowHp .e crBs) ρ0 n0) Tryz.prog 60 crR42 :=
  krow_any_of_ev (E := crE) (X := crX) (m := 1000) (by kernel_rfl) ⟨crE_ok⟩ (crX_ok _) rowHp_ro (by kernel_rfl) h0 rfl rfl rfl (by kernel_rfl) (by kernel_rfl) (by kernel_rfl) (by rw [← crHp_eq]; exact crR42_run)
theorem crR43_ok [Opq] {ρ0 : Rho} (n0 : Nat) (h0 : ∀ b, 4 ≤ b → ρ0 b = none) : KRowOk (LaidI (rowHp .e crBs) ρ0 n0) Tryz.prog 60 crR43 :=
  krow_any_of_ev (E := crE) (X := crX) (m := 1000) (by kernel_rfl) ⟨crE_ok⟩ (crX_ok _) rowHp_ro (by kernel_rfl) h0 rfl rfl rfl (by kernel_rfl) (by kernel_rfl) (by kernel_rfl) (by rw [← crHp_eq]; exact crR43_run)
theorem crR44_ok [Opq] {ρ0 : Rho} (n0 : Nat) (h0 : ∀ b, 4 ≤ b → ρ0 b = none) : KRowOk (LaidI (rowHp .e crBs) ρ0 n0) Tryz.prog 60 crR44 :=
  krow_any_of_ev (E := crE) (X := crX) (m := 1000) (by kernel_rfl) ⟨crE_ok⟩ (crX_ok _) rowHp_ro (by kernel_rfl) h0 rfl rfl rfl (by kernel_rfl) (by kernel_rfl) (by kernel_rfl) (by rw [← crHp_eq]; exact crR44_run)
theorem crR45_ok [Opq] {ρ0 : Rho} (n0 : Nat) (h0 : ∀ b, 4 ≤ b → ρ0 b = none) : KRowOk (LaidI (rowHp .e crBs) ρ0 n0) Tryz.prog 60 crR45 :=
  krow_any_of_ev (E := crE) (X := crX) (m := 1000) (by kernel_rfl) ⟨crE_ok⟩ (crX_ok _) rowHp_ro (by kernel_rfl) h0 rfl rfl rfl (by kernel_rfl) (by kernel_rfl) (by kernel_rfl) (by rw [← crHp_eq]; exact crR45_run)
theorem crR46_ok [Opq] {ρ0 : Rho} (n0 : Nat) (h0 : ∀ b, 4 ≤ b → ρ0 b = none) : KRowOk (LaidI (rowHp .e crBs) ρ0 n0) Tryz.prog 60 crR46 :=
  krow_any_of_ev (E := crE) (X := crX) (m := 1000) (by kernel_rfl) ⟨crE_ok⟩ (crX_ok _) rowHp_ro (by kernel_rfl) h0 rfl rfl rfl (by kernel_rfl) (by kernel_rfl) (by kernel_rfl) (by rw [← crHp_eq]; exact crR46_run)
theorem crR47_ok [Opq] {ρ0 : Rho} (n0 : Nat) (h0 : ∀ b, 4 ≤ b → ρ0 b = none) : KRowOk (LaidI (rowHp .e crBs) ρ0 n0) Tryz.prog 4 crR47 :=
  krow_any_of_ev (E := crE) (X := crX) (m := 1000) (by kernel_rfl) ⟨crE_ok⟩ (crX_ok _) rowHp_ro (by kernel_rfl) h0 rfl rfl rfl (by kernel_rfl) (by kernel_rfl) (by kernel_rfl) (by rw [← crHp_eq]; exact crR47_run)
theorem crR48_ok [Opq] {ρ0 : Rho} (n0 : Nat) (h0 : ∀ b, 4 ≤ b → ρ0 b = none) : KRowOk (LaidI (rowHp .e crBs) ρ0 n0) Tryz.prog 4 crR48 :=
  krow_any_of_ev (E := crE) (X := crX) (m := 1000) (by kernel_rfl) ⟨crE_ok⟩ (crX_ok _) rowHp_ro (by kernel_rfl) h0 rfl rfl rfl (by kernel_rfl) (by kernel_rfl) (by kernel_rfl) (by rw [← crHp_eq]; exact crR48_run)
theorem crR49_ok [Opq] {ρ0 : Rho} (n0 : Nat) (h0 : ∀ b, 4 ≤ b → ρ0 b = none) : KRowOk (LaidI (rowHp .e crBs) ρ0 n0) Tryz.prog 4 crR49 :=
  krow_any_of_ev (E := crE) (X := crX) (m := 1000) (by kernel_rfl) ⟨crE_ok⟩ (crX_ok _) rowHp_ro (by kernel_rfl) h0 rfl rfl rfl (by kernel_rfl) (by kernel_rfl) (by kernel_rfl) (by rw [← crHp_eq]; exact crR49_run)
theorem crR50_ok [Opq] {ρ0 : Rho} (n0 : Nat) (h0 : ∀ b, 4 ≤ b → ρ0 b = none) : KRowOk (LaidI (rowHp .e crBs) ρ0 n0) Tryz.prog 4 crR50 :=
  krow_any_of_ev (E := crE) (X := crX) (m := 1000) (by kernel_rfl) ⟨crE_ok⟩ (crX_ok _) rowHp_ro (by kernel_rfl) h0 rfl rfl rfl (by kernel_rfl) (by kernel_rfl) (by kernel_rfl) (by rw [← crHp_eq]; exact crR50_run)
theorem crR51_ok [Opq] {ρ0 : Rho} (n0 : Nat) (h0 : ∀ b, 4 ≤ b → ρ0 b = none) : KRowOk (LaidI (rowHp .e crBs) ρ0 n0) Tryz.prog 4 crR51 :=
  krow_any_of_ev (E := crE) (X := crX) (m := 1000) (by kernel_rfl) ⟨crE_ok⟩ (crX_ok _) rowHp_ro (by kernel_rfl) h0 rfl rfl rfl (by kernel_rfl) (by kernel_rfl) (by kernel_rfl) (by rw [← crHp_eq]; exact crR51_run)
theorem crR52_ok [Opq] {ρ0 : Rho} (n0 : Nat) (h0 : ∀ b, 4 ≤ b → ρ0 b = none) : KRowOk (LaidI (rowHp .e crBs) ρ0 n0) Tryz.prog 4 crR52 :=
  krow_any_of_ev (E := crE) (X := crX) (m := 1000) (by kernel_rfl) ⟨crE_ok⟩ (crX_ok _) rowHp_ro (by kernel_rfl) h0 rfl rfl rfl (by kernel_rfl) (by kernel_rfl) (by kernel_rfl) (by rw [← crHp_eq]; exact crR52_run)
theorem crR53_ok [Opq] {ρ0 : Rho} (n0 : Nat) (h0 : ∀ b, 4 ≤ b → ρ0 b = none) : KRowOk (LaidI (rowHp .e crBs) ρ0 n0) Tryz.prog 4 crR53 :=
  krow_any_of_ev (E := crE) (X := crX) (m := 1000) (by kernel_rfl) ⟨crE_ok⟩ (crX_ok _) rowHp_ro (by kernel_rfl) h0 rfl rfl rfl (by kernel_rfl) (by kernel_rfl) (by kernel_rfl) (by rw [← crHp_eq]; exact crR53_run)
theorem crR54_ok [Opq] {ρ0 : Rho} (n0 : Nat) (h0 : ∀ b, 4 ≤ b → ρ0 b = none) : KRowOk (LaidI (rowHp .e crBs) ρ0 n0) Tryz.prog 4 crR54 :=
  krow_any_of_ev (E := crE) (X := crX) (m := 1000) (by kernel_rfl) ⟨crE_ok⟩ (crX_ok _) rowHp_ro (by kernel_rfl) h0 rfl rfl rfl (by kernel_rfl) (by kernel_rfl) (by kernel_rfl) (by rw [← crHp_eq]; exact crR54_run)
theorem crR55_ok [Opq] {ρ0 : Rho} (n0 : Nat) (h0 : ∀ b, 4 ≤ b → ρ0 b = none) : KRowOk (LaidI (rowHp .e crBs) ρ0 n0) Tryz.prog 4 crR55 :=
  krow_any_of_ev (E := crE) (X := crX) (m := 1000) (by kernel_rfl) ⟨crE_ok⟩ (crX_ok _) rowHp_ro (by kernel_rfl) h0 rfl rfl rfl (by kernel_rfl) (by kernel_rfl) (by kernel_rfl) (by rw [← crHp_eq]; exact crR55_run)
theorem crR56_ok [Opq] {ρ0 : Rho} (n0 : Nat) (h0 : ∀ b, 4 ≤ b → ρ0 b = none) : KRowOk (LaidI (rowHp .e crBs) ρ0 n0) Tryz.prog 4 crR56 :=
  krow_any_of_ev (E := crE) (X := crX) (m := 1000) (by kernel_rfl) ⟨crE_ok⟩ (crX_ok _) rowHp_ro (by kernel_rfl) h0 rfl rfl rfl (by kernel_rfl) (by kernel_rfl) (by kernel_rfl) (by rw [← crHp_eq]; exact crR56_run)
theorem crR57_ok [Opq] {ρ0 : Rho} (n0 : Nat) (h0 : ∀ b, 4 ≤ b → ρ0 b = none) : KRowOk (LaidI (rowHp .e crBs) ρ0 n0) Tryz.prog 4 crR57 :=
  krow_any_of_ev (E := crE) (X := crX) (m := 1000) (by kernel_rfl) ⟨crE_ok⟩ (crX_ok _) rowHp_ro (by kernel_rfl) h0 rfl rfl rfl (by kernel_rfl) (by kernel_rfl) (by kernel_rfl) (by rw [← crHp_eq]; exact crR57_run)
theorem crR58_ok [Opq] {ρ0 : Rho} (n0 : Nat) (h0 : ∀ b, 4 ≤ b → ρ0 b = none) : KRowOk (LaidI (rowHp .e crBs) ρ0 n0) Tryz.prog 4 crR58 :=
  krow_any_of_ev (E := crE) (X := crX) (m := 1000) (by kernel_rfl) ⟨crE_ok⟩ (crX_ok _) rowHp_ro (by kernel_rfl) h0 rfl rfl rfl (by kernel_rfl) (by kernel_rfl) (by kernel_rfl) (by rw [← crHp_eq]; exact crR58_run)
theorem crR59_ok [Opq] {ρ0 : Rho} (n0 : Nat) (h0 : ∀ b, 4 ≤ b → ρ0 b = none) : KRowOk (LaidI (rowHp .e crBs) ρ0 n0) Tryz.prog 4 crR59 :=
  krow_any_of_ev (E := crE) (X := crX) (m := 1000) (by kernel_rfl) ⟨crE_ok⟩ (crX_ok _) rowHp_ro (by kernel_rfl) h0 rfl rfl rfl (by kernel_rfl) (by kernel_rfl) (by kernel_rfl) (by rw [← crHp_eq]; exact crR59_run)
theorem crR60_ok [Opq] {ρ0 : Rho} (n0 : Nat) (h0 : ∀ b, 4 ≤ b → ρ0 b = none) : KRowOk (LaidI (rowHp .e crBs) ρ0 n0) Tryz.prog 4 crR60 :=
  krow_any_of_ev (E := crE) (X := crX) (m := 1000) (by kernel_rfl) ⟨crE_ok⟩ (crX_ok _) rowHp_ro (by kernel_rfl) h0 rfl rfl rfl (by kernel_rfl) (by kernel_rfl) (by kernel_rfl) (by rw [← crHp_eq]; exact crR60_run)
theorem crR61_ok [Opq] {ρ0 : Rho} (n0 : Nat) (h0 : ∀ b, 4 ≤ b → ρ0 b = none) : KRowOk (LaidI (rowHp .e crBs) ρ0 n0) Tryz.prog 4 crR61 :=
  krow_any_of_ev (E := crE) (X := crX) (m := 1000) (by kernel_rfl) ⟨crE_ok⟩ (crX_ok _) rowHp_ro (by kernel_rfl) h0 rfl rfl rfl (by kernel_rfl) (by kernel_rfl) (by kernel_rfl) (by rw [← crHp_eq]; exact crR61_run)
theorem crR62_ok [Opq] {ρ0 : Rho} (n0 : Nat) (h0 : ∀ b, 4 ≤ b → ρ0 b = none) : KRowOk (LaidI (rowHp .e crBs) ρ0 n0) Tryz.prog 4 crR62 :=
  krow_any_of_ev (E := crE) (X := crX) (m := 1000) (by kernel_rfl) ⟨crE_ok⟩ (crX_ok _) rowHp_ro (by kernel_rfl) h0 rfl rfl rfl (by kernel_rfl) (by kernel_rfl) (by kernel_rfl) (by rw [← crHp_eq]; exact crR62_run)
theorem crR63_ok [Opq] {ρ0 : Rho} (n0 : Nat) (h0 : ∀ b, 4 ≤ b → ρ0 b = none) : KRowOk (LaidI (rowHp .e crBs) ρ0 n0) Tryz.prog 4 crR63 :=
  krow_any_of_ev (E := crE) (X := crX) (m := 1000) (by kernel_rfl) ⟨crE_ok⟩ (crX_ok _) rowHp_ro (by kernel_rfl) h0 rfl rfl rfl (by kernel_rfl) (by kernel_rfl) (by kernel_rfl) (by rw [← crHp_eq]; exact crR63_run)
theorem crR64_ok [Opq] {ρ0 : Rho} (n0 : Nat) (h0 : ∀ b, 4 ≤ b → ρ0 b = none) : KRowOk (LaidI (rowHp .e crBs) ρ0 n0) Tryz.prog 4 crR64 :=
  krow_any_of_ev (E := crE) (X := crX) (m := 1000) (by kernel_rfl) ⟨crE_ok⟩ (crX_ok _) rowHp_ro (by kernel_rfl) h0 rfl rfl rfl (by kernel_rfl) (by kernel_rfl) (by kernel_rfl) (by rw [← crHp_eq]; exact crR64_run)
theorem crR65_ok [Opq] {ρ0 : Rho} (n0 : Nat) (h0 : ∀ b, 4 ≤ b → ρ0 b = none) : KRowOk (LaidI (rowHp .e crBs) ρ0 n0) Tryz.prog 4 crR65 :=
  krow_any_of_ev (E := crE) (X := crX) (m := 1000) (by kernel_rfl) ⟨crE_ok⟩ (crX_ok _) rowHp_ro (by kernel_rfl) h0 rfl rfl rfl (by kernel_rfl) (by kernel_rfl) (by kernel_rfl) (by rw [← crHp_eq]; exact crR65_run)
theorem crR66_ok [Opq] {ρ0 : Rho} (n0 : Nat) (h0 : ∀ b, 4 ≤ b → ρ0 b = none) : KRowOk (LaidI (rowHp .e crBs) ρ0 n0) Tryz.prog 4 crR66 :=
  krow_any_of_ev (E := crE) (X := crX) (m := 1000) (by kernel_rfl) ⟨crE_ok⟩ (crX_ok _) rowHp_ro (by kernel_rfl) h0 rfl rfl rfl (by kernel_rfl) (by kernel_rfl) (by kernel_rfl) (by rw [← crHp_eq]; exact crR66_run)
theorem crR67_ok [Opq] {ρ0 : Rho} (n0 : Nat) (h0 : ∀ b, 4 ≤ b → ρ0 b = none) : KRowOk (LaidI (rowHp .e crBs) ρ0 n0) Tryz.prog 37 crR67 :=
  krow_any_of_ev (E := crE) (X := crX) (m := 1000) (by kernel_rfl) ⟨crE_ok⟩ (crX_ok _) rowHp_ro (by kernel_rfl) h0 rfl rfl rfl (by kernel_rfl) (by kernel_rfl) (by kernel_rfl) (by rw [← crHp_eq]; exact crR67_run)
theorem crR68_ok [Opq] {ρ0 : Rho} (n0 : Nat) (h0 : ∀ b, 4 ≤ b → ρ0 b = none) : KRowOk (LaidI (rowHp .e crBs) ρ0 n0) Tryz.prog 37 crR68 :=
  krow_any_of_ev (E := crE) (X := crX) (m := 1000) (by kernel_rfl) ⟨crE_ok⟩ (crX_ok _) rowHp_ro (by kernel_rfl) h0 rfl rfl rfl (by kernel_rfl) (by kernel_rfl) (by kernel_rfl) (by rw [← crHp_eq]; exact crR68_run)
theorem crR69_ok [Opq] {ρ0 : Rho} (n0 : Nat) (h0 : ∀ b, 4 ≤ b → ρ0 b = none) : KRowOk (LaidI (rowHp .e crBs) ρ0 n0) Tryz.prog 37 crR69 :=
  krow_any_of_ev (E := crE) (X := crX) (m := 1000) (by kernel_rfl) ⟨crE_ok⟩ (crX_ok _) rowHp_ro (by kernel_rfl) h0 rfl rfl rfl (by kernel_rfl) (by kernel_rfl) (by kernel_rfl) (by rw [← crHp_eq]; exact crR69_run)
theorem crR70_ok [Opq] {ρ0 : Rho} (n0 : Nat) (h0 : ∀ b, 4 ≤ b → ρ0 b = none) : KRowOk (LaidI (rowHp .e crBs) ρ0 n0) Tryz.prog 37 crR70 :=
  krow_any_of_ev (E := crE) (X := crX) (m := 1000) (by kernel_rfl) ⟨crE_ok⟩ (crX_ok _) rowHp_ro (by kernel_rfl) h0 rfl rfl rfl (by kernel_rfl) (by kernel_rfl) (by kernel_rfl) (by rw [← crHp_eq]; exact crR70_run)
theorem crR71_ok [Opq] {ρ0 : Rho} (n0 : Nat) (h0 : ∀ b, 4 ≤ b → ρ0 b = none) : KRowOk (LaidI (rowHp .e crBs) ρ0 n0) Tryz.prog 37 crR71 :=
  krow_any_of_ev (E := crE) (X := crX) (m := 1000) (by kernel_rfl) ⟨crE_ok⟩ (crX_ok _) rowHp_ro (by kernel_rfl) h0 rfl rfl rfl (by kernel_rfl) (by kernel_rfl) (by kernel_rfl) (by rw [← crHp_eq]; exact crR71_run)
theorem crR72_ok [Opq] {ρ0 : Rho} (n0 : Nat) (h0 : ∀ b, 4 ≤ b → ρ0 b = none) : KRowOk (LaidI (rowHp .e crBs) ρ0 n0) Tryz.prog 37 crR72 :=
  krow_any_of_ev (E := crE) (X := crX) (m := 1000) (by kernel_rfl) ⟨crE_ok⟩ (crX_ok _) rowHp_ro (by kernel_rfl) h0 rfl rfl rfl (by kernel_rfl) (by kernel_rfl) (by kernel_rfl) (by rw [← crHp_eq]; exact crR72_run)
theorem crR73_ok [Opq] {ρ0 : Rho} (n0 : Nat) (h0 : ∀ b, 4 ≤ b → ρ0 b = none) : KRowOk (LaidI (rowHp .e crBs) ρ0 n0) Tryz.prog 37 crR73 :=
  krow_any_of_ev (E := crE) (X := crX) (m := 1000) (by kernel_rfl) ⟨crE_ok⟩ (crX_ok _) rowHp_ro (by kernel_rfl) h0 rfl rfl rfl (by kernel_rfl) (by kernel_rfl) (by kernel_rfl) (by rw [← crHp_eq]; exact crR73_run)
theorem crR74_ok [Opq] {ρ0 : Rho} (n0 : Nat) (h0 : ∀ b, 4 ≤ b → ρ0 b = none) : KRowOk (LaidI (rowHp .e crBs) ρ0 n0) Tryz.prog 37 crR74 :=
  krow_any_of_ev (E := crE) (X := crX) (m := 1000) (by kernel_rfl) ⟨crE_ok⟩ (crX_ok _) rowHp_ro (by kernel_rfl) h0 rfl rfl rfl (by kernel_rfl) (by kernel_rfl) (by kernel_rfl) (by rw [← crHp_eq]; exact crR74_run)
theorem crR75_ok [Opq] {ρ0 : Rho} (n0 : Nat) (h0 : ∀ b, 4 ≤ b → ρ0 b = none) : KRowOk (LaidI (rowHp .e crBs) ρ0 n0) Tryz.prog 37 crR75 :=
  krow_any_of_ev (E := crE) (X := crX) (m := 1000) (by kernel_rfl) ⟨crE_ok⟩ (crX_ok _) rowHp_ro (by kernel_rfl) h0 rfl rfl rfl (by kernel_rfl) (by kernel_rfl) (by kernel_rfl) (by rw [← crHp_eq]; exact crR75_run)
theorem crR76_ok [Opq] {ρ0 : Rho} (n0 : Nat) (h0 : ∀ b, 4 ≤ b → ρ0 b = none) : KRowOk (LaidI (rowHp .e crBs) ρ0 n0) Tryz.prog 37 crR76 :=
  krow_any_of_ev (E := crE) (X := crX) (m := 1000) (by kernel_rfl) ⟨crE_ok⟩ (crX_ok _) rowHp_ro (by kernel_rfl) h0 rfl rfl rfl (by kernel_rfl) (by kernel_rfl) (by kernel_rfl) (by rw [← crHp_eq]; exact crR76_run)
theorem crR77_ok [Opq] {ρ0 : Rho} (n0 : Nat) (h0 : ∀ b, 4 ≤ b → ρ0 b = none) : KRowOk (LaidI (rowHp .e crBs) ρ0 n0) Tryz.prog 37 crR77 :=
  krow_any_of_ev (E := crE) (X := crX) (m := 1000) (by kernel_rfl) ⟨crE_ok⟩ (crX_ok _) rowHp_ro (by kernel_rfl) h0 rfl rfl rfl (by kernel_rfl) (by kernel_rfl) (by kernel_rfl) (by rw [← crHp_eq]; exact crR77_run)
theorem crR78_ok [Opq] {ρ0 : Rho} (n0 : Nat) (h0 : ∀ b, 4 ≤ b → ρ0 b = none) : KRowOk (LaidI (rowHp .e crBs) ρ0 n0) Tryz.prog 37 crR78 :=
  krow_any_of_ev (E := crE) (X := crX) (m := 1000) (by kernel_rfl) ⟨crE_ok⟩ (crX_ok _) rowHp_ro (by kernel_rfl) h0 rfl rfl rfl (by kernel_rfl) (by kernel_rfl) (by kernel_rfl) (by rw [← crHp_eq]; exact crR78_run)
theorem crR79_ok [Opq] {ρ0 : Rho} (n0 : Nat) (h0 : ∀ b, 4 ≤ b → ρ0 b = none) : KRowOk (LaidI (rowHp .e crBs) ρ0 n0) Tryz.prog 37 crR79 :=
  krow_any_of_ev (E := crE) (X := crX) (m := 1000) (by kernel_rfl) ⟨crE_ok⟩ (crX_ok _) rowHp_ro (by kernel_rfl) h0 rfl rfl rfl (by kernel_rfl) (by kernel_rfl) (by kernel_rfl) (by rw [← crHp_eq]; exact crR79_run)
theorem crR80_ok [Opq] {ρ0 : Rho} (n0 : Nat) (h0 : ∀ b, 4 ≤ b → ρ0 b = none) : KRowOk (LaidI (rowHp .e crBs) ρ0 n0) Tryz.prog 37 crR80 :=
  krow_any_of_ev (E := crE) (X := crX) (m := 1000) (by kernel_rfl) ⟨crE_ok⟩ (crX_ok _) rowHp_ro (by kernel_rfl) h0 rfl rfl rfl (by kernel_rfl) (by kernel_rfl) (by kernel_rfl) (by rw [← crHp_eq]; exact crR80_run)
theorem crR81_ok [Opq] {ρ0 : Rho} (n0 : Nat) (h0 : ∀ b, 4 ≤ b → ρ0 b = none) : KRowOk (LaidI (rowHp .e crBs) ρ0 n0) Tryz.prog 37 crR81 :=
  krow_any_of_ev (E := crE) (X := crX) (m := 1000) (by kernel_rfl) ⟨crE_ok⟩ (crX_ok _) rowHp_ro (by kernel_rfl) h0 rfl rfl rfl (by kernel_rfl) (by kernel_rfl) (by kernel_rfl) (by rw [← crHp_eq]; exact crR81_run)
theorem crR82_ok [Opq] {ρ0 : Rho} (n0 : Nat) (h0 : ∀ b, 4 ≤ b → ρ0 b = none) : KRowOk (LaidI (rowHp .e crBs) ρ0 n0) Tryz.prog 37 crR82 :=
  krow_any_of_ev (E := crE) (X := crX) (m := 1000) (by kernel_rfl) ⟨crE_ok⟩ (crX_ok _) rowHp_ro (by kernel_rfl) h0 rfl rfl rfl (by kernel_rfl) (by kernel_rfl) (by kernel_rfl) (by rw [← crHp_eq]; exact crR82_run)
theorem crR83_ok [Opq] {ρ0 : Rho} (n0 : Nat) (h0 : ∀ b, 4 ≤ b → ρ0 b = none) : KRowOk (LaidI (rowHp .e crBs) ρ0 n0) Tryz.prog 37 crR83 :=
  krow_any_of_ev (E := crE) (X := crX) (m := 1000) (by kernel_rfl) ⟨crE_ok⟩ (crX_ok _) rowHp_ro (by kernel_rfl) h0 rfl rfl rfl (by kernel_rfl) (by kernel_rfl) (by kernel_rfl) (by rw [← crHp_eq]; exact crR83_run)
theorem crR84_ok [Opq] {ρ0 : Rho} (n0 : Nat) (h0 : ∀ b, 4 ≤ b → ρ0 b = none) : KRowOk (LaidI (rowHp .e crBs) ρ0 n0) Tryz.prog 37 crR84 :=
  krow_any_of_ev (E := crE) (X := crX) (m := 1000) (by kernel_rfl) ⟨crE_ok⟩ (crX_ok _) rowHp_ro (by kernel_rfl) h0 rfl rfl rfl (by kernel_rfl) (by kernel_rfl) (by kernel_rfl) (by rw [← crHp_eq]; exact crR84_run)
theorem crR85_ok [Opq] {ρ0 : Rho} (n0 : Nat) (h0 : ∀ b, 4 ≤ b → ρ0 b = none) : KRowOk (LaidI (rowHp .e crBs) ρ0 n0) Tryz.prog 37 crR85 :=
  krow_any_of_ev (E := crE) (X := crX) (m := 1000) (by kernel_rfl) ⟨crE_ok⟩ (crX_ok _) rowHp_ro (by kernel_rfl) h0 rfl rfl rfl (by kernel_rfl) (by kernel_rfl) (by kernel_rfl) (by rw [← crHp_eq]; exact crR85_run)
theorem crR86_ok [Opq] {ρ0 : Rho} (n0 : Nat) (h0 : ∀ b, 4 ≤ b → ρ0 b = none) : KRowOk (LaidI (rowHp .e crBs) ρ0 n0) Tryz.prog 37 crR86 :=
  krow_any_of_ev (E := crE) (X := crX) (m := 1000) (by kernel_rfl) ⟨crE_ok⟩ (crX_ok _) rowHp_ro (by kernel_rfl) h0 rfl rfl rfl (by kernel_rfl) (by kernel_rfl) (by kernel_rfl) (by rw [← crHp_eq]; exact crR86_run)
theorem crY_at {f : Nat} {k : XK} (h : crY f = some k) : (f = 4 ∧ k = .known [crR47, crR48, crR49, crR50, crR51, crR52, crR53, crR54, crR55, crR56, crR57, crR58, crR59, crR60, crR61, crR62, crR63, crR64, crR65, crR66]) ∨ (f = 10 ∧ k = .known [crR0]) ∨ (f = 37 ∧ k = .known [crR67, crR68, crR69, crR70, crR71, crR72, crR73, crR74, crR75, crR76, crR77, crR78, crR79, crR80, crR81, crR82, crR83, crR84, crR85, crR86]) ∨ (f = 60 ∧ k = .known [crR27, crR28, crR29, crR30, crR31, crR32, crR33, crR34, crR35, crR36, crR37, crR38, crR39, crR40, crR41, crR42, crR43, crR44, crR45, crR46]) ∨ (f = 74 ∧ k = .known [crR1, crR2, crR3, crR4, crR5, crR6, crR7, crR8, crR9, crR10, crR11, crR12, crR13, crR14, crR15, crR16, crR17, crR18, crR19, crR20, crR21, crR22, crR23, crR24, crR25, crR26]) ∨ crX f = some k := by
  unfold crY at h
  cases hb0 : Nat.beq f 4 with
  | true => rw [hb0, cond_true] at h; cases h; exact .inl ⟨Nat.eq_of_beq_eq_true hb0, rfl⟩
  | false =>
  rw [hb0, cond_false] at h
  cases hb1 : Nat.beq f 10 with
  | true => rw [hb1, cond_true] at h; cases h; exact .inr (.inl ⟨Nat.eq_of_beq_eq_true hb1, rfl⟩)
  | false =>
  rw [hb1, cond_false] at h
  cases hb2 : Nat.beq f 37 with
  | true => rw [hb2, cond_true] at h; cases h; exact .inr (.inr (.inl ⟨Nat.eq_of_beq_eq_true hb2, rfl⟩))
  | false =>
  rw [hb2, cond_false] at h
  cases hb3 : Nat.beq f 60 with
  | true => rw [hb3, cond_true] at h; cases h; exact .inr (.inr (.inr (.inl ⟨Nat.eq_of_beq_eq_true hb3, rfl⟩)))
  | false =>
  rw [hb3, cond_false] at h
  cases hb4 : Nat.beq f 74 with
  | true => rw [hb4, cond_true] at h; cases h; exact .inr (.inr (.inr (.inr (.inl ⟨Nat.eq_of_beq_eq_true hb4, rfl⟩))))
  | false =>
  rw [hb4, cond_false] at h
  exact .inr (.inr (.inr (.inr (.inr h))))
theorem crY_ok [Opq] {ρ0 : Rho} (n0 : Nat) (h0 : ∀ b, 4 ≤ b → ρ0 b = none) : XOk (LaidI (rowHp .e crBs) ρ0 n0) Tryz.prog crY where
  ext f k h hk := by
    rcases crY_at h with ⟨rfl, rfl⟩ | ⟨rfl, rfl⟩ | ⟨rfl, rfl⟩ | ⟨rfl, rfl⟩ | ⟨rfl, rfl⟩ | h
    · cases hk
    · cases hk
    · cases hk
    · cases hk
    · cases hk
    · exact (crX_ok _).ext f k h hk
  known f rows h := by
    rcases crY_at h with ⟨rfl, h⟩ | ⟨rfl, h⟩ | ⟨rfl, h⟩ | ⟨rfl, h⟩ | ⟨rfl, h⟩ | h
    · cases h
      intro r hr
      simp only [List.mem_cons, List.not_mem_nil, or_false] at hr
      rcases hr with rfl | rfl | rfl | rfl | rfl | rfl | rfl | rfl | rfl | rfl | rfl | rfl | rfl | rfl | rfl | rfl | rfl | rfl | rfl | rfl
      · exact crR47_ok n0 h0
      · exact crR48_ok n0 h0
      · exact crR49_ok n0 h0
      · exact crR50_ok n0 h0
      · exact crR51_ok n0 h0
      · exact crR52_ok n0 h0
      · exact crR53_ok n0 h0
      · exact crR54_ok n0 h0
      · exact crR55_ok n0 h0
      · exact crR56_ok n0 h0
      · exact crR57_ok n0 h0
      · exact crR58_ok n0 h0
      · exact crR59_ok n0 h0
      · exact crR60_ok n0 h0
      · exact crR61_ok n0 h0
      · exact crR62_ok n0 h0
      · exact crR63_ok n0 h0
      · exact crR64_ok n0 h0
      · exact crR65_ok n0 h0
      · exact crR66_ok n0 h0
    · cases h
      intro r hr
      simp only [List.mem_cons, List.not_mem_nil, or_false] at hr
      subst hr
      · exact crR0_ok n0 h0
    · cases h
      intro r hr
      simp only [List.mem_cons, List.not_mem_nil, or_false] at hr
      rcases hr with rfl | rfl | rfl | rfl | rfl | rfl | rfl | rfl | rfl | rfl | rfl | rfl | rfl | rfl | rfl | rfl | rfl | rfl | rfl | rfl
      · exact crR67_ok n0 h0
      · exact crR68_ok n0 h0
      · exact crR69_ok n0 h0
      · exact crR70_ok n0 h0
      · exact crR71_ok n0 h0
      · exact crR72_ok n0 h0
      · exact crR73_ok n0 h0
      · exact crR74_ok n0 h0
      · exact crR75_ok n0 h0
      · exact crR76_ok n0 h0
      · exact crR77_ok n0 h0
      · exact crR78_ok n0 h0
      · exact crR79_ok n0 h0
      · exact crR80_ok n0 h0
      · exact crR81_ok n0 h0
      · exact crR82_ok n0 h0
      · exact crR83_ok n0 h0
      · exact crR84_ok n0 h0
      · exact crR85_ok n0 h0
      · exact crR86_ok n0 h0
    · cases h
      intro r hr
      simp only [List.mem_cons, List.not_mem_nil, or_false] at hr
      rcases hr with rfl | rfl | rfl | rfl | rfl | rfl | rfl | rfl | rfl | rfl | rfl | rfl | rfl | rfl | rfl | rfl | rfl | rfl | rfl | rfl
      · exact crR27_ok n0 h0
      · exact crR28_ok n0 h0
      · exact crR29_ok n0 h0
      · exact crR30_ok n0 h0
      · exact crR31_ok n0 h0
      · exact crR32_ok n0 h0
      · exact crR33_ok n0 h0
      · exact crR34_ok n0 h0
      · exact crR35_ok n0 h0
      · exact crR36_ok n0 h0
      · exact crR37_ok n0 h0
      · exact crR38_ok n0 h0
      · exact crR39_ok n0 h0
      · exact crR40_ok n0 h0
      · exact crR41_ok n0 h0
      · exact crR42_ok n0 h0
      · exact crR43_ok n0 h0
      · exact crR44_ok n0 h0
      · exact crR45_ok n0 h0
      · exact crR46_ok n0 h0
    · cases h
      intro r hr
      simp only [List.mem_cons, List.not_mem_nil, or_false] at hr
      rcases hr with rfl | rfl | rfl | rfl | rfl | rfl | rfl | rfl | rfl | rfl | rfl | rfl | rfl | rfl | rfl | rfl | rfl | rfl | rfl | rfl | rfl | rfl | rfl | rfl | rfl | rfl
      · exact crR1_ok n0 h0
      · exact crR2_ok n0 h0
      · exact crR3_ok n0 h0
      · exact crR4_ok n0 h0
      · exact crR5_ok n0 h0
      · exact crR6_ok n0 h0
      · exact crR7_ok n0 h0
      · exact crR8_ok n0 h0
      · exact crR9_ok n0 h0
      · exact crR10_ok n0 h0
      · exact crR11_ok n0 h0
      · exact crR12_ok n0 h0
      · exact crR13_ok n0 h0
      · exact crR14_ok n0 h0
      · exact crR15_ok n0 h0
      · exact crR16_ok n0 h0
      · exact crR17_ok n0 h0
      · exact crR18_ok n0 h0
      · exact crR19_ok n0 h0
      · exact crR20_ok n0 h0
      · exact crR21_ok n0 h0
      · exact crR22_ok n0 h0
      · exact crR23_ok n0 h0
      · exact crR24_ok n0 h0
      · exact crR25_ok n0 h0
      · exact crR26_ok n0 h0
    · exact (crX_ok _).known f rows h
end Go.Proofs.YtcgdnhkibjldjaaGreatDoor
