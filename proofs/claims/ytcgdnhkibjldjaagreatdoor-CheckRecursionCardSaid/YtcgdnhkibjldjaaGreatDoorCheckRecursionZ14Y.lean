/- Part of the proof that the law CheckRecursion answers true: the longest evaluations: the table is sound. No condition. -/
import Derived.Test.YtcgdnhkibjldjaaGreatDoorCheckRecursionY
import Derived.Test.YtcgdnhkibjldjaaGreatDoorCheckRecursionZ14D
namespace Go.Proofs.YtcgdnhkibjldjaaGreatDoor
open Go Go.Sh
theorem crZ14_row [Opq] {ρ0 : Rho} (n0 : Nat) (h0 : ∀ b, 4 ≤ b → ρ0 b = none) {f : Nat} {r : KRow} (h1 : Nat.beq r.nx 0 = false) (h2 : rowSc r = true) (h3 : (bodyOf Tryz.prog f).isSome = true) (h : crH14run f r = true) : KRowOk (LaidI (rowHp .e crBs) ρ0 n0) Tryz.prog f r :=
  krow_of_ev (E := crE) (X := crY) (m := 1000) (by kernel_rfl) ⟨crE_ok⟩ (crY_ok n0 h0) (LaidI.ki rowHp_ro) h1 h2 h3 (by rw [← crHp_eq, ← crHp_eq]; exact h)
theorem crZ14_b15 : (bodyOf Tryz.prog 15).isSome = true := by kernel_rfl
theorem crZ14_b70 : (bodyOf Tryz.prog 70).isSome = true := by kernel_rfl
theorem crZ14_b71 : (bodyOf Tryz.prog 71).isSome = true := by kernel_rfl
theorem crZ14_b85 : (bodyOf Tryz.prog 85).isSome = true := by kernel_rfl
theorem crZ14_at {f : Nat} {k : XK} (h : crZ14 f = some k) : (f = 15 ∧ k = .known [crH14r3, crH14r38, crH14r43, crH14r48, crH14r53, crH14r58, crH14r63, crH14r68, crH14r73, crH14r78, crH14r83, crH14r88, crH14r93, crH14r98, crH14r103, crH14r108, crH14r112, crH14r145, crH14r146]) ∨ (f = 70 ∧ k = .known [crH14r0, crH14r5, crH14r7, crH14r9, crH14r11, crH14r13, crH14r15, crH14r17, crH14r19, crH14r21, crH14r23, crH14r25, crH14r27, crH14r29, crH14r31, crH14r33, crH14r35, crH14r40, crH14r45, crH14r50, crH14r55, crH14r60, crH14r65, crH14r70, crH14r75, crH14r80, crH14r85, crH14r90, crH14r95, crH14r100, crH14r105, crH14r110]) ∨ (f = 71 ∧ k = .known [crH14r1, crH14r6, crH14r8, crH14r10, crH14r12, crH14r14, crH14r16, crH14r18, crH14r20, crH14r22, crH14r24, crH14r26, crH14r28, crH14r30, crH14r32, crH14r34, crH14r36, crH14r41, crH14r46, crH14r51, crH14r56, crH14r61, crH14r66, crH14r71, crH14r76, crH14r81, crH14r86, crH14r91, crH14r96, crH14r101, crH14r106, crH14r111]) ∨ (f = 85 ∧ k = .known [crH14r2, crH14r4, crH14r37, crH14r39, crH14r42, crH14r44, crH14r47, crH14r49, crH14r52, crH14r54, crH14r57, crH14r59, crH14r62, crH14r64, crH14r67, crH14r69, crH14r72, crH14r74, crH14r77, crH14r79, crH14r82, crH14r84, crH14r87, crH14r89, crH14r92, crH14r94, crH14r97, crH14r99, crH14r102, crH14r104, crH14r107, crH14r109, crH14r113, crH14r114, crH14r115, crH14r116, crH14r117, crH14r118, crH14r119, crH14r120, crH14r121, crH14r122, crH14r123, crH14r124, crH14r125, crH14r126, crH14r127, crH14r128, crH14r129, crH14r130, crH14r131, crH14r132, crH14r133, crH14r134, crH14r135, crH14r136, crH14r137, crH14r138, crH14r139, crH14r140, crH14r141, crH14r142, crH14r143, crH14r144]) ∨ crY f = some k := by
  unfold crZ14 at h
  cases hb0 : Nat.beq f 15 with
  | true => rw [hb0, cond_true] at h; cases h; exact .inl ⟨Nat.eq_of_beq_eq_true hb0, rfl⟩
  | false =>
  rw [hb0, cond_false] at h
  cases hb1 : Nat.beq f 70 with
  | true => rw [hb1, cond_true] at h; cases h; exact .inr (.inl ⟨Nat.eq_of_beq_eq_true hb1, rfl⟩)
  | false =>
  rw [hb1, cond_false] at h
  cases hb2 : Nat.beq f 71 with
  | true => rw [hb2, cond_true] at h; cases h; exact .inr (.inr (.inl ⟨Nat.eq_of_beq_eq_true hb2, rfl⟩))
  | false =>
  rw [hb2, cond_false] at h
  cases hb3 : Nat.beq f 85 with
  | true => rw [hb3, cond_true] at h; cases h; exact .inr (.inr (.inr (.inl ⟨Nat.eq_of_beq_eq_true hb3, rfl⟩)))
  | false =>
  rw [hb3, cond_false] at h
  exact .inr (.inr (.inr (.inr h)))
theorem crZ14_ok [Opq] {ρ0 : Rho} (n0 : Nat) (h0 : ∀ b, 4 ≤ b → ρ0 b = none) : XOk (LaidI (rowHp .e crBs) ρ0 n0) Tryz.prog crZ14 where
  ext f k h hk := by
    rcases crZ14_at h with ⟨rfl, rfl⟩ | ⟨rfl, rfl⟩ | ⟨rfl, rfl⟩ | ⟨rfl, rfl⟩ | h
    · cases hk
    · cases hk
    · cases hk
    · cases hk
    · exact (crY_ok n0 h0).ext f k h hk
  known f rows h := by
    rcases crZ14_at h with ⟨rfl, h⟩ | ⟨rfl, h⟩ | ⟨rfl, h⟩ | ⟨rfl, h⟩ | h
    · cases h
      intro r hr
      simp only [List.mem_cons, List.not_mem_nil, or_false] at hr
      rcases hr with rfl | rfl | rfl | rfl | rfl | rfl | rfl | rfl | rfl | rfl | rfl | rfl | rfl | rfl | rfl | rfl | rfl | rfl | rfl
      · exact crZ14_row n0 h0 rfl rfl crZ14_b15 crH14r3_run
      · exact crZ14_row n0 h0 rfl rfl crZ14_b15 crH14r38_run
      · exact crZ14_row n0 h0 rfl rfl crZ14_b15 crH14r43_run
      · exact crZ14_row n0 h0 rfl rfl crZ14_b15 crH14r48_run
      · exact crZ14_row n0 h0 rfl rfl crZ14_b15 crH14r53_run
      · exact crZ14_row n0 h0 rfl rfl crZ14_b15 crH14r58_run
      · exact crZ14_row n0 h0 rfl rfl crZ14_b15 crH14r63_run
      · exact crZ14_row n0 h0 rfl rfl crZ14_b15 crH14r68_run
      · exact crZ14_row n0 h0 rfl rfl crZ14_b15 crH14r73_run
      · exact crZ14_row n0 h0 rfl rfl crZ14_b15 crH14r78_run
      · exact crZ14_row n0 h0 rfl rfl crZ14_b15 crH14r83_run
      · exact crZ14_row n0 h0 rfl rfl crZ14_b15 crH14r88_run
      · exact crZ14_row n0 h0 rfl rfl crZ14_b15 crH14r93_run
      · exact crZ14_row n0 h0 rfl rfl crZ14_b15 crH14r98_run
      · exact crZ14_row n0 h0 rfl rfl crZ14_b15 crH14r103_run
      · exact crZ14_row n0 h0 rfl rfl crZ14_b15 crH14r108_run
      · exact crZ14_row n0 h0 rfl rfl crZ14_b15 crH14r112_run
      · exact crZ14_row n0 h0 rfl rfl crZ14_b15 crH14r145_run
      · exact crZ14_row n0 h0 rfl rfl crZ14_b15 crH14r146_run
    · cases h
      intro r hr
      simp only [List.mem_cons, List.not_mem_nil, or_false] at hr
      rcases hr with rfl | rfl | rfl | rfl | rfl | rfl | rfl | rfl | rfl | rfl | rfl | rfl | rfl | rfl | rfl | rfl | rfl | rfl | rfl | rfl | rfl | rfl | rfl | rfl | rfl | rfl | rfl | rfl | rfl | rfl | rfl | rfl
      · exact crZ14_row n0 h0 rfl rfl crZ14_b70 crH14r0_run
      · exact crZ14_row n0 h0 rfl rfl crZ14_b70 crH14r5_run
      · exact crZ14_row n0 h0 rfl rfl crZ14_b70 crH14r7_run
      · exact crZ14_row n0 h0 rfl rfl crZ14_b70 crH14r9_run
      · exact crZ14_row n0 h0 rfl rfl crZ14_b70 crH14r11_run
      · exact crZ14_row n0 h0 rfl rfl crZ14_b70 crH14r13_run
      · exact crZ14_row n0 h0 rfl rfl crZ14_b70 crH14r15_run
      · exact crZ14_row n0 h0 rfl rfl crZ14_b70 crH14r17_run
      · exact crZ14_row n0 h0 rfl rfl crZ14_b70 crH14r19_run
      · exact crZ14_row n0 h0 rfl rfl crZ14_b70 crH14r21_run
      · exact crZ14_row n0 h0 rfl rfl crZ14_b70 crH14r23_run
      · exact crZ14_row n0 h0 rfl rfl crZ14_b70 crH14r25_run
      · exact crZ14_row n0 h0 rfl rfl crZ14_b70 crH14r27_run
      · exact crZ14_row n0 h0 rfl rfl crZ14_b70 crH14r29_run
      · exact crZ14_row n0 h0 rfl rfl crZ14_b70 crH14r31_run
      · exact crZ14_row n0 h0 rfl rfl crZ14_b70 crH14r33_run
      · exact crZ14_row n0 h0 rfl rfl crZ14_b70 crH14r35_run
      · exact crZ14_row n0 h0 rfl rfl crZ14_b70 crH14r40_run
      · exact crZ14_row n0 h0 rfl rfl crZ14_b70 crH14r45_run
      · exact crZ14_row n0 h0 rfl rfl crZ14_b70 crH14r50_run
      · exact crZ14_row n0 h0 rfl rfl crZ14_b70 crH14r55_run
      · exact crZ14_row n0 h0 rfl rfl crZ14_b70 crH14r60_run
      · exact crZ14_row n0 h0 rfl rfl crZ14_b70 crH14r65_run
      · exact crZ14_row n0 h0 rfl rfl crZ14_b70 crH14r70_run
      · exact crZ14_row n0 h0 rfl rfl crZ14_b70 crH14r75_run
      · exact crZ14_row n0 h0 rfl rfl crZ14_b70 crH14r80_run
      · exact crZ14_row n0 h0 rfl rfl crZ14_b70 crH14r85_run
      · exact crZ14_row n0 h0 rfl rfl crZ14_b70 crH14r90_run
      · exact crZ14_row n0 h0 rfl rfl crZ14_b70 crH14r95_run
      · exact crZ14_row n0 h0 rfl rfl crZ14_b70 crH14r100_run
      · exact crZ14_row n0 h0 rfl rfl crZ14_b70 crH14r105_run
      · exact crZ14_row n0 h0 rfl rfl crZ14_b70 crH14r110_run
    · cases h
      intro r hr
      simp only [List.mem_cons, List.not_mem_nil, or_false] at hr
      rcases hr with rfl | rfl | rfl | rfl | rfl | rfl | rfl | rfl | rfl | rfl | rfl | rfl | rfl | rfl | rfl | rfl | rfl | rfl | rfl | rfl | rfl | rfl | rfl | rfl | rfl | rfl | rfl | rfl | rfl | rfl | rfl | rfl
      · exact crZ14_row n0 h0 rfl rfl crZ14_b71 crH14r1_run
      · exact crZ14_row n0 h0 rfl rfl crZ14_b71 crH14r6_run
      · exact crZ14_row n0 h0 rfl rfl crZ14_b71 crH14r8_run
      · exact crZ14_row n0 h0 rfl rfl crZ14_b71 crH14r10_run
      · exact crZ14_row n0 h0 rfl rfl crZ14_b71 crH14r12_run
      · exact crZ14_row n0 h0 rfl rfl crZ14_b71 crH14r14_run
      · exact crZ14_row n0 h0 rfl rfl crZ14_b71 crH14r16_run
      · exact crZ14_row n0 h0 rfl rfl crZ14_b71 crH14r18_run
      · exact crZ14_row n0 h0 rfl rfl crZ14_b71 crH14r20_run
      · exact crZ14_row n0 h0 rfl rfl crZ14_b71 crH14r22_run
      · exact crZ14_row n0 h0 rfl rfl crZ14_b71 crH14r24_run
      · exact crZ14_row n0 h0 rfl rfl crZ14_b71 crH14r26_run
      · exact crZ14_row n0 h0 rfl rfl crZ14_b71 crH14r28_run
      · exact crZ14_row n0 h0 rfl rfl crZ14_b71 crH14r30_run
      · exact crZ14_row n0 h0 rfl rfl crZ14_b71 crH14r32_run
      · exact crZ14_row n0 h0 rfl rfl crZ14_b71 crH14r34_run
      · exact crZ14_row n0 h0 rfl rfl crZ14_b71 crH14r36_run
      · exact crZ14_row n0 h0 rfl rfl crZ14_b71 crH14r41_run
      · exact crZ14_row n0 h0 rfl rfl crZ14_b71 crH14r46_run
      · exact crZ14_row n0 h0 rfl rfl crZ14_b71 crH14r51_run
      · exact crZ14_row n0 h0 rfl rfl crZ14_b71 crH14r56_run
      · exact crZ14_row n0 h0 rfl rfl crZ14_b71 crH14r61_run
      · exact crZ14_row n0 h0 rfl rfl crZ14_b71 crH14r66_run
      · exact crZ14_row n0 h0 rfl rfl crZ14_b71 crH14r71_run
      · exact crZ14_row n0 h0 rfl rfl crZ14_b71 crH14r76_run
      · exact crZ14_row n0 h0 rfl rfl crZ14_b71 crH14r81_run
      · exact crZ14_row n0 h0 rfl rfl crZ14_b71 crH14r86_run
      · exact crZ14_row n0 h0 rfl rfl crZ14_b71 crH14r91_run
      · exact crZ14_row n0 h0 rfl rfl crZ14_b71 crH14r96_run
      · exact crZ14_row n0 h0 rfl rfl crZ14_b71 crH14r101_run
      · exact crZ14_row n0 h0 rfl rfl crZ14_b71 crH14r106_run
      · exact crZ14_row n0 h0 rfl rfl crZ14_b71 crH14r111_run
    · cases h
      intro r hr
      simp only [List.mem_cons, List.not_mem_nil, or_false] at hr
      rcases hr with rfl | rfl | rfl | rfl | rfl | rfl | rfl | rfl | rfl | rfl | rfl | rfl | rfl | rfl | rfl | rfl | rfl | rfl | rfl | rfl | rfl | rfl | rfl | rfl | rfl | rfl | rfl | rfl | rfl | rfl | rfl | rfl | rfl | rfl | rfl | rfl | rfl | rfl | rfl | rfl | rfl | rfl | rfl | rfl | rfl | rfl | rfl | rfl | rfl | rfl | rfl | rfl | rfl | rfl | rfl | rfl | rfl | rfl | rfl | rfl | rfl | rfl | rfl | rfl
      · exact crZ14_row n0 h0 rfl rfl crZ14_b85 crH14r2_run
      · exact crZ14_row n0 h0 rfl rfl crZ14_b85 crH14r4_run
      · exact crZ14_row n0 h0 rfl rfl crZ14_b85 crH14r37_run
      · exact crZ14_row n0 h0 rfl rfl crZ14_b85 crH14r39_run
      · exact crZ14_row n0 h0 rfl rfl crZ14_b85 crH14r42_run
      · exact crZ14_row n0 h0 rfl rfl crZ14_b85 crH14r44_run
      · exact crZ14_row n0 h0 rfl rfl crZ14_b85 crH14r47_run
      · exact crZ14_row n0 h0 rfl rfl crZ14_b85 crH14r49_run
      · exact crZ14_row n0 h0 rfl rfl crZ14_b85 crH14r52_run
      · exact crZ14_row n0 h0 rfl rfl crZ14_b85 crH14r54_run
      · exact crZ14_row n0 h0 rfl rfl crZ14_b85 crH14r57_run
      · exact crZ14_row n0 h0 rfl rfl crZ14_b85 crH14r59_run
      · exact crZ14_row n0 h0 rfl rfl crZ14_b85 crH14r62_run
      · exact crZ14_row n0 h0 rfl rfl crZ14_b85 crH14r64_run
      · exact crZ14_row n0 h0 rfl rfl crZ14_b85 crH14r67_run
      · exact crZ14_row n0 h0 rfl rfl crZ14_b85 crH14r69_run
      · exact crZ14_row n0 h0 rfl rfl crZ14_b85 crH14r72_run
      · exact crZ14_row n0 h0 rfl rfl crZ14_b85 crH14r74_run
      · exact crZ14_row n0 h0 rfl rfl crZ14_b85 crH14r77_run
      · exact crZ14_row n0 h0 rfl rfl crZ14_b85 crH14r79_run
      · exact crZ14_row n0 h0 rfl rfl crZ14_b85 crH14r82_run
      · exact crZ14_row n0 h0 rfl rfl crZ14_b85 crH14r84_run
      · exact crZ14_row n0 h0 rfl rfl crZ14_b85 crH14r87_run
      · exact crZ14_row n0 h0 rfl rfl crZ14_b85 crH14r89_run
      · exact crZ14_row n0 h0 rfl rfl crZ14_b85 crH14r92_run
      · exact crZ14_row n0 h0 rfl rfl crZ14_b85 crH14r94_run
      · exact crZ14_row n0 h0 rfl rfl crZ14_b85 crH14r97_run
      · exact crZ14_row n0 h0 rfl rfl crZ14_b85 crH14r99_run
      · exact crZ14_row n0 h0 rfl rfl crZ14_b85 crH14r102_run
      · exact crZ14_row n0 h0 rfl rfl crZ14_b85 crH14r104_run
      · exact crZ14_row n0 h0 rfl rfl crZ14_b85 crH14r107_run
      · exact crZ14_row n0 h0 rfl rfl crZ14_b85 crH14r109_run
      · exact crZ14_row n0 h0 rfl rfl crZ14_b85 crH14r113_run
      · exact crZ14_row n0 h0 rfl rfl crZ14_b85 crH14r114_run
      · exact crZ14_row n0 h0 rfl rfl crZ14_b85 crH14r115_run
      · exact crZ14_row n0 h0 rfl rfl crZ14_b85 crH14r116_run
      · exact crZ14_row n0 h0 rfl rfl crZ14_b85 crH14r117_run
      · exact crZ14_row n0 h0 rfl rfl crZ14_b85 crH14r118_run
      · exact crZ14_row n0 h0 rfl rfl crZ14_b85 crH14r119_run
      · exact crZ14_row n0 h0 rfl rfl crZ14_b85 crH14r120_run
      · exact crZ14_row n0 h0 rfl rfl crZ14_b85 crH14r121_run
      · exact crZ14_row n0 h0 rfl rfl crZ14_b85 crH14r122_run
      · exact crZ14_row n0 h0 rfl rfl crZ14_b85 crH14r123_run
      · exact crZ14_row n0 h0 rfl rfl crZ14_b85 crH14r124_run
      · exact crZ14_row n0 h0 rfl rfl crZ14_b85 crH14r125_run
      · exact crZ14_row n0 h0 rfl rfl crZ14_b85 crH14r126_run
      · exact crZ14_row n0 h0 rfl rfl crZ14_b85 crH14r127_run
      · exact crZ14_row n0 h0 rfl rfl crZ14_b85 crH14r128_run
      · exact crZ14_row n0 h0 rfl rfl crZ14_b85 crH14r129_run
      · exact crZ14_row n0 h0 rfl rfl crZ14_b85 crH14r130_run
      · exact crZ14_row n0 h0 rfl rfl crZ14_b85 crH14r131_run
      · exact crZ14_row n0 h0 rfl rfl crZ14_b85 crH14r132_run
      · exact crZ14_row n0 h0 rfl rfl crZ14_b85 crH14r133_run
      · exact crZ14_row n0 h0 rfl rfl crZ14_b85 crH14r134_run
      · exact crZ14_row n0 h0 rfl rfl crZ14_b85 crH14r135_run
      · exact crZ14_row n0 h0 rfl rfl crZ14_b85 crH14r136_run
      · exact crZ14_row n0 h0 rfl rfl crZ14_b85 crH14r137_run
      · exact crZ14_row n0 h0 rfl rfl crZ14_b85 crH14r138_run
      · exact crZ14_row n0 h0 rfl rfl crZ14_b85 crH14r139_run
      · exact crZ14_row n0 h0 rfl rfl crZ14_b85 crH14r140_run
      · exact crZ14_row n0 h0 rfl rfl crZ14_b85 crH14r141_run
      · exact crZ14_row n0 h0 rfl rfl crZ14_b85 crH14r142_run
      · exact crZ14_row n0 h0 rfl rfl crZ14_b85 crH14r143_run
      · exact crZ14_row n0 h0 rfl rfl crZ14_b85 crH14r144_run
    · exact (crY_ok n0 h0).known f rows h
end Go.Proofs.YtcgdnhkibjldjaaGreatDoor
