/- Part of the proof that the law CheckRecursion answers true: the longest evaluations: the table is sound. No condition. -/
import Derived.Test.YtcgdnhkibjldjaaGreatDoorCheckRecursionY
import Derived.Test.YtcgdnhkibjldjaaGreatDoorCheckRecursionZ18D
namespace Go.Proofs.YtcgdnhkibjldjaaGreatDoor
open Go Go.Sh
theorem crZ18_row [Opq] {ρ0 : Rho} (n0 : Nat) (h0 : ∀ b, 4 ≤ b → ρ0 b = none) {f : Nat} {r : KRow} (h1 : Nat.beq r.nx 0 = false) (h2 : rowSc r = true) (h3 : (bodyOf Tryz.prog f).isSome = true) (h : crH18run f r = true) : KRowOk (LaidI (rowHp .e crBs) ρ0 n0) Tryz.prog f r :=
  krow_of_ev (E := crE) (X := crY) (m := 1000) (by kernel_rfl) ⟨crE_ok⟩ (crY_ok n0 h0) (LaidI.ki rowHp_ro) h1 h2 h3 (by rw [← crHp_eq, ← crHp_eq]; exact h)
theorem crZ18_b15 : (bodyOf Tryz.prog 15).isSome = true := by kernel_rfl
theorem crZ18_b70 : (bodyOf Tryz.prog 70).isSome = true := by kernel_rfl
theorem crZ18_b71 : (bodyOf Tryz.prog 71).isSome = true := by kernel_rfl
theorem crZ18_b85 : (bodyOf Tryz.prog 85).isSome = true := by kernel_rfl
theorem crZ18_at {f : Nat} {k : XK} (h : crZ18 f = some k) : (f = 15 ∧ k = .known [crH18r3, crH18r46, crH18r51, crH18r56, crH18r61, crH18r66, crH18r71, crH18r76, crH18r81, crH18r86, crH18r91, crH18r96, crH18r101, crH18r106, crH18r111, crH18r116, crH18r121, crH18r126, crH18r131, crH18r136, crH18r140, crH18r181, crH18r182]) ∨ (f = 70 ∧ k = .known [crH18r0, crH18r5, crH18r7, crH18r9, crH18r11, crH18r13, crH18r15, crH18r17, crH18r19, crH18r21, crH18r23, crH18r25, crH18r27, crH18r29, crH18r31, crH18r33, crH18r35, crH18r37, crH18r39, crH18r41, crH18r43, crH18r48, crH18r53, crH18r58, crH18r63, crH18r68, crH18r73, crH18r78, crH18r83, crH18r88, crH18r93, crH18r98, crH18r103, crH18r108, crH18r113, crH18r118, crH18r123, crH18r128, crH18r133, crH18r138]) ∨ (f = 71 ∧ k = .known [crH18r1, crH18r6, crH18r8, crH18r10, crH18r12, crH18r14, crH18r16, crH18r18, crH18r20, crH18r22, crH18r24, crH18r26, crH18r28, crH18r30, crH18r32, crH18r34, crH18r36, crH18r38, crH18r40, crH18r42, crH18r44, crH18r49, crH18r54, crH18r59, crH18r64, crH18r69, crH18r74, crH18r79, crH18r84, crH18r89, crH18r94, crH18r99, crH18r104, crH18r109, crH18r114, crH18r119, crH18r124, crH18r129, crH18r134, crH18r139]) ∨ (f = 85 ∧ k = .known [crH18r2, crH18r4, crH18r45, crH18r47, crH18r50, crH18r52, crH18r55, crH18r57, crH18r60, crH18r62, crH18r65, crH18r67, crH18r70, crH18r72, crH18r75, crH18r77, crH18r80, crH18r82, crH18r85, crH18r87, crH18r90, crH18r92, crH18r95, crH18r97, crH18r100, crH18r102, crH18r105, crH18r107, crH18r110, crH18r112, crH18r115, crH18r117, crH18r120, crH18r122, crH18r125, crH18r127, crH18r130, crH18r132, crH18r135, crH18r137, crH18r141, crH18r142, crH18r143, crH18r144, crH18r145, crH18r146, crH18r147, crH18r148, crH18r149, crH18r150, crH18r151, crH18r152, crH18r153, crH18r154, crH18r155, crH18r156, crH18r157, crH18r158, crH18r159, crH18r160, crH18r161, crH18r162, crH18r163, crH18r164, crH18r165, crH18r166, crH18r167, crH18r168, crH18r169, crH18r170, crH18r171, crH18r172, crH18r173, crH18r174, crH18r175, crH18r176, crH18r177, crH18r178, crH18r179, crH18r180]) ∨ crY f = some k := by
  unfold crZ18 at h
  cases hb0 : Nat.beq f 15 with
  | true => rw [hb0, cond_true] at h; cases h; exact .inl ⟨Nat.eq_of_beq_eq_true hb0, rfl⟩
  | false =>
  rw [hb0, cond_false] at h
  cases hb1 : Nat.beq f 70 with
  | true => rw [hb1, cond_true] at h; cases h; exact .inr (.inl ⟨Nat.eq_of_beq_eq_true hb1, rfl⟩)
  | false =>
  rw [hb1, cond_false] at h
  cases hb2 : Nat.beq f 71 with
  | true => rw [hb2, cond_true] at h; cases h; exact .inr (.inr (.inl ⟨Nat.eq_of_beq_eq_true hb2, rfl⟩))
  | false =>
  rw [hb2, cond_false] at h
  cases hb3 : Nat.beq f 85 with
  | true => rw [hb3, cond_true] at h; cases h; exact .inr (.inr (.inr (.inl ⟨Nat.eq_of_beq_eq_true hb3, rfl⟩)))
  | false =>
  rw [hb3, cond_false] at h
  exact .inr (.inr (.inr (.inr h)))
theorem crZ18_ok [Opq] {ρ0 : Rho} (n0 : Nat) (h0 : ∀ b, 4 ≤ b → ρ0 b = none) : XOk (LaidI (rowHp .e crBs) ρ0 n0) Tryz.prog crZ18 where
  ext f k h hk := by
    rcases crZ18_at h with ⟨rfl, rfl⟩ | ⟨rfl, rfl⟩ | ⟨rfl, rfl⟩ | ⟨rfl, rfl⟩ | h
    · cases hk
    · cases hk
    · cases hk
    · cases hk
    · exact (crY_ok n0 h0).ext f k h hk
  known f rows h := by
    rcases crZ18_at h with ⟨rfl, h⟩ | ⟨rfl, h⟩ | ⟨rfl, h⟩ | ⟨rfl, h⟩ | h
    · cases h
      intro r hr
      simp only [List.mem_cons, List.not_mem_nil, or_false] at hr
      rcases hr with rfl | rfl | rfl | rfl | rfl | rfl | rfl | rfl | rfl | rfl | rfl | rfl | rfl | rfl | rfl | rfl | rfl | rfl | rfl | rfl | rfl | rfl | rfl
      · exact crZ18_row n0 h0 rfl rfl crZ18_b15 crH18r3_run
      · exact crZ18_row n0 h0 rfl rfl crZ18_b15 crH18r46_run
      · exact crZ18_row n0 h0 rfl rfl crZ18_b15 crH18r51_run
      · exact crZ18_row n0 h0 rfl rfl crZ18_b15 crH18r56_run
      · exact crZ18_row n0 h0 rfl rfl crZ18_b15 crH18r61_run
      · exact crZ18_row n0 h0 rfl rfl crZ18_b15 crH18r66_run
      · exact crZ18_row n0 h0 rfl rfl crZ18_b15 crH18r71_run
      · exact crZ18_row n0 h0 rfl rfl crZ18_b15 crH18r76_run
      · exact crZ18_row n0 h0 rfl rfl crZ18_b15 crH18r81_run
      · exact crZ18_row n0 h0 rfl rfl crZ18_b15 crH18r86_run
      · exact crZ18_row n0 h0 rfl rfl crZ18_b15 crH18r91_run
      · exact crZ18_row n0 h0 rfl rfl crZ18_b15 crH18r96_run
      · exact crZ18_row n0 h0 rfl rfl crZ18_b15 crH18r101_run
      · exact crZ18_row n0 h0 rfl rfl crZ18_b15 crH18r106_run
      · exact crZ18_row n0 h0 rfl rfl crZ18_b15 crH18r111_run
      · exact crZ18_row n0 h0 rfl rfl crZ18_b15 crH18r116_run
      · exact crZ18_row n0 h0 rfl rfl crZ18_b15 crH18r121_run
      · exact crZ18_row n0 h0 rfl rfl crZ18_b15 crH18r126_run
      · exact crZ18_row n0 h0 rfl rfl crZ18_b15 crH18r131_run
      · exact crZ18_row n0 h0 rfl rfl crZ18_b15 crH18r136_run
      · exact crZ18_row n0 h0 rfl rfl crZ18_b15 crH18r140_run
      · exact crZ18_row n0 h0 rfl rfl crZ18_b15 crH18r181_run
      · exact crZ18_row n0 h0 rfl rfl crZ18_b15 crH18r182_run
    · cases h
      intro r hr
      simp only [List.mem_cons, List.not_mem_nil, or_false] at hr
      rcases hr with rfl | rfl | rfl | rfl | rfl | rfl | rfl | rfl | rfl | rfl | rfl | rfl | rfl | rfl | rfl | rfl | rfl | rfl | rfl | rfl | rfl | rfl | rfl | rfl | rfl | rfl | rfl | rfl | rfl | rfl | rfl | rfl | rfl | rfl | rfl | rfl | rfl | rfl | rfl | rfl
      · exact crZ18_row n0 h0 rfl rfl crZ18_b70 crH18r0_run
      · exact crZ18_row n0 h0 rfl rfl crZ18_b70 crH18r5_run
      · exact crZ18_row n0 h0 rfl rfl crZ18_b70 crH18r7_run
      · exact crZ18_row n0 h0 rfl rfl crZ18_b70 crH18r9_run
      · exact crZ18_row n0 h0 rfl rfl crZ18_b70 crH18r11_run
      · exact crZ18_row n0 h0 rfl rfl crZ18_b70 crH18r13_run
      · exact crZ18_row n0 h0 rfl rfl crZ18_b70 crH18r15_run
      · exact crZ18_row n0 h0 rfl rfl crZ18_b70 crH18r17_run
      · exact crZ18_row n0 h0 rfl rfl crZ18_b70 crH18r19_run
      · exact crZ18_row n0 h0 rfl rfl crZ18_b70 crH18r21_run
      · exact crZ18_row n0 h0 rfl rfl crZ18_b70 crH18r23_run
      · exact crZ18_row n0 h0 rfl rfl crZ18_b70 crH18r25_run
      · exact crZ18_row n0 h0 rfl rfl crZ18_b70 crH18r27_run
      · exact crZ18_row n0 h0 rfl rfl crZ18_b70 crH18r29_run
      · exact crZ18_row n0 h0 rfl rfl crZ18_b70 crH18r31_run
      · exact crZ18_row n0 h0 rfl rfl crZ18_b70 crH18r33_run
      · exact crZ18_row n0 h0 rfl rfl crZ18_b70 crH18r35_run
      · exact crZ18_row n0 h0 rfl rfl crZ18_b70 crH18r37_run
      · exact crZ18_row n0 h0 rfl rfl crZ18_b70 crH18r39_run
      · exact crZ18_row n0 h0 rfl rfl crZ18_b70 crH18r41_run
      · exact crZ18_row n0 h0 rfl rfl crZ18_b70 crH18r43_run
      · exact crZ18_row n0 h0 rfl rfl crZ18_b70 crH18r48_run
      · exact crZ18_row n0 h0 rfl rfl crZ18_b70 crH18r53_run
      · exact crZ18_row n0 h0 rfl rfl crZ18_b70 crH18r58_run
      · exact crZ18_row n0 h0 rfl rfl crZ18_b70 crH18r63_run
      · exact crZ18_row n0 h0 rfl rfl crZ18_b70 crH18r68_run
      · exact crZ18_row n0 h0 rfl rfl crZ18_b70 crH18r73_run
      · exact crZ18_row n0 h0 rfl rfl crZ18_b70 crH18r78_run
      · exact crZ18_row n0 h0 rfl rfl crZ18_b70 crH18r83_run
      · exact crZ18_row n0 h0 rfl rfl crZ18_b70 crH18r88_run
      · exact crZ18_row n0 h0 rfl rfl crZ18_b70 crH18r93_run
      · exact crZ18_row n0 h0 rfl rfl crZ18_b70 crH18r98_run
      · exact crZ18_row n0 h0 rfl rfl crZ18_b70 crH18r103_run
      · exact crZ18_row n0 h0 rfl rfl crZ18_b70 crH18r108_run
      · exact crZ18_row n0 h0 rfl rfl crZ18_b70 crH18r113_run
      · exact crZ18_row n0 h0 rfl rfl crZ18_b70 crH18r118_run
      · exact crZ18_row n0 h0 rfl rfl crZ18_b70 crH18r123_run
      · exact crZ18_row n0 h0 rfl rfl crZ18_b70 crH18r128_run
      · exact crZ18_row n0 h0 rfl rfl crZ18_b70 crH18r133_run
      · exact crZ18_row n0 h0 rfl rfl crZ18_b70 crH18r138_run
    · cases h
      intro r hr
      simp only [List.mem_cons, List.not_mem_nil, or_false] at hr
      rcases hr with rfl | rfl | rfl | rfl | rfl | rfl | rfl | rfl | rfl | rfl | rfl | rfl | rfl | rfl | rfl | rfl | rfl | rfl | rfl | rfl | rfl | rfl | rfl | rfl | rfl | rfl | rfl | rfl | rfl | rfl | rfl | rfl | rfl | rfl | rfl | rfl | rfl | rfl | rfl | rfl
      · exact crZ18_row n0 h0 rfl rfl crZ18_b71 crH18r1_run
      · exact crZ18_row n0 h0 rfl rfl crZ18_b71 crH18r6_run
      · exact crZ18_row n0 h0 rfl rfl crZ18_b71 crH18r8_run
      · exact crZ18_row n0 h0 rfl rfl crZ18_b71 crH18r10_run
      · exact crZ18_row n0 h0 rfl rfl crZ18_b71 crH18r12_run
      · exact crZ18_row n0 h0 rfl rfl crZ18_b71 crH18r14_run
      · exact crZ18_row n0 h0 rfl rfl crZ18_b71 crH18r16_run
      · exact crZ18_row n0 h0 rfl rfl crZ18_b71 crH18r18_run
      · exact crZ18_row n0 h0 rfl rfl crZ18_b71 crH18r20_run
      · exact crZ18_row n0 h0 rfl rfl crZ18_b71 crH18r22_run
      · exact crZ18_row n0 h0 rfl rfl crZ18_b71 crH18r24_run
      · exact crZ18_row n0 h0 rfl rfl crZ18_b71 crH18r26_run
      · exact crZ18_row n0 h0 rfl rfl crZ18_b71 crH18r28_run
      · exact crZ18_row n0 h0 rfl rfl crZ18_b71 crH18r30_run
      · exact crZ18_row n0 h0 rfl rfl crZ18_b71 crH18r32_run
      · exact crZ18_row n0 h0 rfl rfl crZ18_b71 crH18r34_run
      · exact crZ18_row n0 h0 rfl rfl crZ18_b71 crH18r36_run
      · exact crZ18_row n0 h0 rfl rfl crZ18_b71 crH18r38_run
      · exact crZ18_row n0 h0 rfl rfl crZ18_b71 crH18r40_run
      · exact crZ18_row n0 h0 rfl rfl crZ18_b71 crH18r42_run
      · exact crZ18_row n0 h0 rfl rfl crZ18_b71 crH18r44_run
      · exact crZ18_row n0 h0 rfl rfl crZ18_b71 crH18r49_run
      · exact crZ18_row n0 h0 rfl rfl crZ18_b71 crH18r54_run
      · exact crZ18_row n0 h0 rfl rfl crZ18_b71 crH18r59_run
      · exact crZ18_row n0 h0 rfl rfl crZ18_b71 crH18r64_run
      · exact crZ18_row n0 h0 rfl rfl crZ18_b71 crH18r69_run
      · exact crZ18_row n0 h0 rfl rfl crZ18_b71 crH18r74_run
      · exact crZ18_row n0 h0 rfl rfl crZ18_b71 crH18r79_run
      · exact crZ18_row n0 h0 rfl rfl crZ18_b71 crH18r84_run
      · exact crZ18_row n0 h0 rfl rfl crZ18_b71 crH18r89_run
      · exact crZ18_row n0 h0 rfl rfl crZ18_b71 crH18r94_run
      · exact crZ18_row n0 h0 rfl rfl crZ18_b71 crH18r99_run
      · exact crZ18_row n0 h0 rfl rfl crZ18_b71 crH18r104_run
      · exact crZ18_row n0 h0 rfl rfl crZ18_b71 crH18r109_run
      · exact crZ18_row n0 h0 rfl rfl crZ18_b71 crH18r114_run
      · exact crZ18_row n0 h0 rfl rfl crZ18_b71 crH18r119_run
      · exact crZ18_row n0 h0 rfl rfl crZ18_b71 crH18r124_run
      · exact crZ18_row n0 h0 rfl rfl crZ18_b71 crH18r129_run
      · exact crZ18_row n0 h0 rfl rfl crZ18_b71 crH18r134_run
      · exact crZ18_row n0 h0 rfl rfl crZ18_b71 crH18r139_run
    · cases h
      intro r hr
      simp only [List.mem_cons, List.not_mem_nil, or_false] at hr
      rcases hr with rfl | rfl | rfl | rfl | rfl | rfl | rfl | rfl | rfl | rfl | rfl | rfl | rfl | rfl | rfl | rfl | rfl | rfl | rfl | rfl | rfl | rfl | rfl | rfl | rfl | rfl | rfl | rfl | rfl | rfl | rfl | rfl | rfl | rfl | rfl | rfl | rfl | rfl | rfl | rfl | rfl | rfl | rfl | rfl | rfl | rfl | rfl | rfl | rfl | rfl | rfl | rfl | rfl | rfl | rfl | rfl | rfl | rfl | rfl | rfl | rfl | rfl | rfl | rfl | rfl | rfl | rfl | rfl | rfl | rfl | rfl | rfl | rfl | rfl | rfl | rfl | rfl | rfl | rfl | rfl
      · exact crZ18_row n0 h0 rfl rfl crZ18_b85 crH18r2_run
      · exact crZ18_row n0 h0 rfl rfl crZ18_b85 crH18r4_run
      · exact crZ18_row n0 h0 rfl rfl crZ18_b85 crH18r45_run
      · exact crZ18_row n0 h0 rfl rfl crZ18_b85 crH18r47_run
      · exact crZ18_row n0 h0 rfl rfl crZ18_b85 crH18r50_run
      · exact crZ18_row n0 h0 rfl rfl crZ18_b85 crH18r52_run
      · exact crZ18_row n0 h0 rfl rfl crZ18_b85 crH18r55_run
      · exact crZ18_row n0 h0 rfl rfl crZ18_b85 crH18r57_run
      · exact crZ18_row n0 h0 rfl rfl crZ18_b85 crH18r60_run
      · exact crZ18_row n0 h0 rfl rfl crZ18_b85 crH18r62_run
      · exact crZ18_row n0 h0 rfl rfl crZ18_b85 crH18r65_run
      · exact crZ18_row n0 h0 rfl rfl crZ18_b85 crH18r67_run
      · exact crZ18_row n0 h0 rfl rfl crZ18_b85 crH18r70_run
      · exact crZ18_row n0 h0 rfl rfl crZ18_b85 crH18r72_run
      · exact crZ18_row n0 h0 rfl rfl crZ18_b85 crH18r75_run
      · exact crZ18_row n0 h0 rfl rfl crZ18_b85 crH18r77_run
      · exact crZ18_row n0 h0 rfl rfl crZ18_b85 crH18r80_run
      · exact crZ18_row n0 h0 rfl rfl crZ18_b85 crH18r82_run
      · exact crZ18_row n0 h0 rfl rfl crZ18_b85 crH18r85_run
      · exact crZ18_row n0 h0 rfl rfl crZ18_b85 crH18r87_run
      · exact crZ18_row n0 h0 rfl rfl crZ18_b85 crH18r90_run
      · exact crZ18_row n0 h0 rfl rfl crZ18_b85 crH18r92_run
      · exact crZ18_row n0 h0 rfl rfl crZ18_b85 crH18r95_run
      · exact crZ18_row n0 h0 rfl rfl crZ18_b85 crH18r97_run
      · exact crZ18_row n0 h0 rfl rfl crZ18_b85 crH18r100_run
      · exact crZ18_row n0 h0 rfl rfl crZ18_b85 crH18r102_run
      · exact crZ18_row n0 h0 rfl rfl crZ18_b85 crH18r105_run
      · exact crZ18_row n0 h0 rfl rfl crZ18_b85 crH18r107_run
      · exact crZ18_row n0 h0 rfl rfl crZ18_b85 crH18r110_run
      · exact crZ18_row n0 h0 rfl rfl crZ18_b85 crH18r112_run
      · exact crZ18_row n0 h0 rfl rfl crZ18_b85 crH18r115_run
      · exact crZ18_row n0 h0 rfl rfl crZ18_b85 crH18r117_run
      · exact crZ18_row n0 h0 rfl rfl crZ18_b85 crH18r120_run
      · exact crZ18_row n0 h0 rfl rfl crZ18_b85 crH18r122_run
      · exact crZ18_row n0 h0 rfl rfl crZ18_b85 crH18r125_run
      · exact crZ18_row n0 h0 rfl rfl crZ18_b85 crH18r127_run
      · exact crZ18_row n0 h0 rfl rfl crZ18_b85 crH18r130_run
      · exact crZ18_row n0 h0 rfl rfl crZ18_b85 crH18r132_run
      · exact crZ18_row n0 h0 rfl rfl crZ18_b85 crH18r135_run
      · exact crZ18_row n0 h0 rfl rfl crZ18_b85 crH18r137_run
      · exact crZ18_row n0 h0 rfl rfl crZ18_b85 crH18r141_run
      · exact crZ18_row n0 h0 rfl rfl crZ18_b85 crH18r142_run
      · exact crZ18_row n0 h0 rfl rfl crZ18_b85 crH18r143_run
      · exact crZ18_row n0 h0 rfl rfl crZ18_b85 crH18r144_run
      · exact crZ18_row n0 h0 rfl rfl crZ18_b85 crH18r145_run
      · exact crZ18_row n0 h0 rfl rfl crZ18_b85 crH18r146_run
      · exact crZ18_row n0 h0 rfl rfl crZ18_b85 crH18r147_run
      · exact crZ18_row n0 h0 rfl rfl crZ18_b85 crH18r148_run
      · exact crZ18_row n0 h0 rfl rfl crZ18_b85 crH18r149_run
      · exact crZ18_row n0 h0 rfl rfl crZ18_b85 crH18r150_run
      · exact crZ18_row n0 h0 rfl rfl crZ18_b85 crH18r151_run
      · exact crZ18_row n0 h0 rfl rfl crZ18_b85 crH18r152_run
      · exact crZ18_row n0 h0 rfl rfl crZ18_b85 crH18r153_run
      · exact crZ18_row n0 h0 rfl rfl crZ18_b85 crH18r154_run
      · exact crZ18_row n0 h0 rfl rfl crZ18_b85 crH18r155_run
      · exact crZ18_row n0 h0 rfl rfl crZ18_b85 crH18r156_run
      · exact crZ18_row n0 h0 rfl rfl crZ18_b85 crH18r157_run
      · exact crZ18_row n0 h0 rfl rfl crZ18_b85 crH18r158_run
      · exact crZ18_row n0 h0 rfl rfl crZ18_b85 crH18r159_run
      · exact crZ18_row n0 h0 rfl rfl crZ18_b85 crH18r160_run
      · exact crZ18_row n0 h0 rfl rfl crZ18_b85 crH18r161_run
      · exact crZ18_row n0 h0 rfl rfl crZ18_b85 crH18r162_run
      · exact crZ18_row n0 h0 rfl rfl crZ18_b85 crH18r163_run
      · exact crZ18_row n0 h0 rfl rfl crZ18_b85 crH18r164_run
      · exact crZ18_row n0 h0 rfl rfl crZ18_b85 crH18r165_run
      · exact crZ18_row n0 h0 rfl rfl crZ18_b85 crH18r166_run
      · exact crZ18_row n0 h0 rfl rfl crZ18_b85 crH18r167_run
      · exact crZ18_row n0 h0 rfl rfl crZ18_b85 crH18r168_run
      · exact crZ18_row n0 h0 rfl rfl crZ18_b85 crH18r169_run
      · exact crZ18_row n0 h0 rfl rfl crZ18_b85 crH18r170_run
      · exact crZ18_row n0 h0 rfl rfl crZ18_b85 crH18r171_run
      · exact crZ18_row n0 h0 rfl rfl crZ18_b85 crH18r172_run
      · exact crZ18_row n0 h0 rfl rfl crZ18_b85 crH18r173_run
      · exact crZ18_row n0 h0 rfl rfl crZ18_b85 crH18r174_run
      · exact crZ18_row n0 h0 rfl rfl crZ18_b85 crH18r175_run
      · exact crZ18_row n0 h0 rfl rfl crZ18_b85 crH18r176_run
      · exact crZ18_row n0 h0 rfl rfl crZ18_b85 crH18r177_run
      · exact crZ18_row n0 h0 rfl rfl crZ18_b85 crH18r178_run
      · exact crZ18_row n0 h0 rfl rfl crZ18_b85 crH18r179_run
      · exact crZ18_row n0 h0 rfl rfl crZ18_b85 crH18r180_run
    · exact (crY_ok n0 h0).known f rows h
end Go.Proofs.YtcgdnhkibjldjaaGreatDoor
