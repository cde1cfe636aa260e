/- Part of the proof that the law CheckTwice answers true: calls of which it is shown what they give. No condition. -/
import Derived.Test.YtghflileejejbaaGreatDoorCheckTwiceB
namespace Go.Proofs.YtghflileejejbaaGreatDoor
open Go Go.Sh
def ctR0 : KRow := ⟨0, [], [], .bool true, none⟩
theorem ctR0_run : (ev ctE ctX Tryz.prog 1001).f.f 4 ctR0.args ⟨rowHp .e ctBs, 4, big⟩ (rowEnd ctR0) (fun _ _ => false) = true := by kernel_rfl
theorem ctR0_ok [Opq] {ρ0 : Rho} (n0 : Nat) (h0 : ∀ b, 4 ≤ b → ρ0 b = none) : KRowOk (LaidI (rowHp .e ctBs) ρ0 n0) Tryz.prog 4 ctR0 :=
  krow_any_of_ev (E := ctE) (X := ctX) (m := 1000) (by kernel_rfl) ⟨ctE_ok⟩ (ctX_ok _) rowHp_ro (by kernel_rfl) h0 rfl rfl rfl (by kernel_rfl) (by kernel_rfl) (by kernel_rfl) ctR0_run
def ctR1 : KRow := ⟨0, [.str 3 6699622, .int .i64 (0)], [], .bool false, none⟩
theorem ctR1_run : (ev ctE ctX Tryz.prog 1001).f.f 34 ctR1.args ⟨rowHp .e ctBs, 4, big⟩ (rowEnd ctR1) (fun _ _ => false) = true := by kernel_rfl
theorem ctR1_ok [Opq] {ρ0 : Rho} (n0 : Nat) (h0 : ∀ b, 4 ≤ b → ρ0 b = none) : KRowOk (LaidI (rowHp .e ctBs) ρ0 n0) Tryz.prog 34 ctR1 :=
  krow_any_of_ev (E := ctE) (X := ctX) (m := 1000) (by kernel_rfl) ⟨ctE_ok⟩ (ctX_ok _) rowHp_ro (by kernel_rfl) h0 rfl rfl rfl (by kernel_rfl) (by kernel_rfl) (by kernel_rfl) ctR1_run
def ctR2 : KRow := ⟨0, [.str 3 6699622, .int .i64 (1)], [], .bool false, none⟩
theorem ctR2_run : (ev ctE ctX Tryz.prog 1001).f.f 34 ctR2.args ⟨rowHp .e ctBs, 4, big⟩ (rowEnd ctR2) (fun _ _ => false) = true := by kernel_rfl
theorem ctR2_ok [Opq] {ρ0 : Rho} (n0 : Nat) (h0 : ∀ b, 4 ≤ b → ρ0 b = none) : KRowOk (LaidI (rowHp .e ctBs) ρ0 n0) Tryz.prog 34 ctR2 :=
  krow_any_of_ev (E := ctE) (X := ctX) (m := 1000) (by kernel_rfl) ⟨ctE_ok⟩ (ctX_ok _) rowHp_ro (by kernel_rfl) h0 rfl rfl rfl (by kernel_rfl) (by kernel_rfl) (by kernel_rfl) ctR2_run
def ctR3 : KRow := ⟨0, [.agg [.int .i64 (0), .str 0 0, .str 0 0, .int .i64 (0), .int .i64 (3), .str 1 49, .int .i64 (0), .int .i64 (0), .str 0 0, .int .i64 (0), .int .i64 (0), .int .i64 (0), .str 0 0, .str 0 0, .nils, .nils]], [], .int .i64 (0), none⟩
theorem ctR3_run : (ev ctE ctX Tryz.prog 1001).f.f 67 ctR3.args ⟨rowHp .e ctBs, 4, big⟩ (rowEnd ctR3) (fun _ _ => false) = true := by kernel_rfl
theorem ctR3_ok [Opq] {ρ0 : Rho} (n0 : Nat) (h0 : ∀ b, 4 ≤ b → ρ0 b = none) : KRowOk (LaidI (rowHp .e ctBs) ρ0 n0) Tryz.prog 67 ctR3 :=
  krow_any_of_ev (E := ctE) (X := ctX) (m := 1000) (by kernel_rfl) ⟨ctE_ok⟩ (ctX_ok _) rowHp_ro (by kernel_rfl) h0 rfl rfl rfl (by kernel_rfl) (by kernel_rfl) (by kernel_rfl) ctR3_run
end Go.Proofs.YtghflileejejbaaGreatDoor
