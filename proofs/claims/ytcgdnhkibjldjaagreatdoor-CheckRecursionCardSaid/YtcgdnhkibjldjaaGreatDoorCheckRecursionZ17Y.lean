/- Part of the proof that the law CheckRecursion answers true: the longest evaluations: the table is sound. No condition. -/
import Derived.Test.YtcgdnhkibjldjaaGreatDoorCheckRecursionY
import Derived.Test.YtcgdnhkibjldjaaGreatDoorCheckRecursionZ17D
namespace Go.Proofs.YtcgdnhkibjldjaaGreatDoor
open Go Go.Sh
theorem crZ17_row [Opq] {ρ0 : Rho} (n0 : Nat) (h0 : ∀ b, 4 ≤ b → ρ0 b = none) {f : Nat} {r : KRow} (h1 : Nat.beq r.nx 0 = false) (h2 : rowSc r = true) (h3 : (bodyOf Tryz.prog f).isSome = true) (h : crH17run f r = true) : KRowOk (LaidI (rowHp .e crBs) ρ0 n0) Tryz.prog f r :=
  krow_of_ev (E := crE) (X := crY) (m := 1000) (by kernel_rfl) ⟨crE_ok⟩ (crY_ok n0 h0) (LaidI.ki rowHp_ro) h1 h2 h3 (by rw [← crHp_eq, ← crHp_eq]; exact h)
theorem crZ17_b15 : (bodyOf Tryz.prog 15).isSome = true := by kernel_rfl
theorem crZ17_b70 : (bodyOf Tryz.prog 70).isSome = true := by kernel_rfl
theorem crZ17_b71 : (bodyOf Tryz.prog 71).isSome = true := by kernel_rfl
theorem crZ17_b85 : (bodyOf Tryz.prog 85).isSome = true := by kernel_rfl
theorem crZ17_at {f : Nat} {k : XK} (h : crZ17 f = some k) : (f = 15 ∧ k = .known [crH17r3, crH17r44, crH17r49, crH17r54, crH17r59, crH17r64, crH17r69, crH17r74, crH17r79, crH17r84, crH17r89, crH17r94, crH17r99, crH17r104, crH17r109, crH17r114, crH17r119, crH17r124, crH17r129, crH17r133, crH17r172, crH17r173]) ∨ (f = 70 ∧ k = .known [crH17r0, crH17r5, crH17r7, crH17r9, crH17r11, crH17r13, crH17r15, crH17r17, crH17r19, crH17r21, crH17r23, crH17r25, crH17r27, crH17r29, crH17r31, crH17r33, crH17r35, crH17r37, crH17r39, crH17r41, crH17r46, crH17r51, crH17r56, crH17r61, crH17r66, crH17r71, crH17r76, crH17r81, crH17r86, crH17r91, crH17r96, crH17r101, crH17r106, crH17r111, crH17r116, crH17r121, crH17r126, crH17r131]) ∨ (f = 71 ∧ k = .known [crH17r1, crH17r6, crH17r8, crH17r10, crH17r12, crH17r14, crH17r16, crH17r18, crH17r20, crH17r22, crH17r24, crH17r26, crH17r28, crH17r30, crH17r32, crH17r34, crH17r36, crH17r38, crH17r40, crH17r42, crH17r47, crH17r52, crH17r57, crH17r62, crH17r67, crH17r72, crH17r77, crH17r82, crH17r87, crH17r92, crH17r97, crH17r102, crH17r107, crH17r112, crH17r117, crH17r122, crH17r127, crH17r132]) ∨ (f = 85 ∧ k = .known [crH17r2, crH17r4, crH17r43, crH17r45, crH17r48, crH17r50, crH17r53, crH17r55, crH17r58, crH17r60, crH17r63, crH17r65, crH17r68, crH17r70, crH17r73, crH17r75, crH17r78, crH17r80, crH17r83, crH17r85, crH17r88, crH17r90, crH17r93, crH17r95, crH17r98, crH17r100, crH17r103, crH17r105, crH17r108, crH17r110, crH17r113, crH17r115, crH17r118, crH17r120, crH17r123, crH17r125, crH17r128, crH17r130, crH17r134, crH17r135, crH17r136, crH17r137, crH17r138, crH17r139, crH17r140, crH17r141, crH17r142, crH17r143, crH17r144, crH17r145, crH17r146, crH17r147, crH17r148, crH17r149, crH17r150, crH17r151, crH17r152, crH17r153, crH17r154, crH17r155, crH17r156, crH17r157, crH17r158, crH17r159, crH17r160, crH17r161, crH17r162, crH17r163, crH17r164, crH17r165, crH17r166, crH17r167, crH17r168, crH17r169, crH17r170, crH17r171]) ∨ crY f = some k := by
  unfold crZ17 at h
  cases hb0 : Nat.beq f 15 with
  | true => rw [hb0, cond_true] at h; cases h; exact .inl ⟨Nat.eq_of_beq_eq_true hb0, rfl⟩
  | false =>
  rw [hb0, cond_false] at h
  cases hb1 : Nat.beq f 70 with
  | true => rw [hb1, cond_true] at h; cases h; exact .inr (.inl ⟨Nat.eq_of_beq_eq_true hb1, rfl⟩)
  | false =>
  rw [hb1, cond_false] at h
  cases hb2 : Nat.beq f 71 with
  | true => rw [hb2, cond_true] at h; cases h; exact .inr (.inr (.inl ⟨Nat.eq_of_beq_eq_true hb2, rfl⟩))
  | false =>
  rw [hb2, cond_false] at h
  cases hb3 : Nat.beq f 85 with
  | true => rw [hb3, cond_true] at h; cases h; exact .inr (.inr (.inr (.inl ⟨Nat.eq_of_beq_eq_true hb3, rfl⟩)))
  | false =>
  rw [hb3, cond_false] at h
  exact .inr (.inr (.inr (.inr h)))
theorem crZ17_ok [Opq] {ρ0 : Rho} (n0 : Nat) (h0 : ∀ b, 4 ≤ b → ρ0 b = none) : XOk (LaidI (rowHp .e crBs) ρ0 n0) Tryz.prog crZ17 where
  ext f k h hk := by
    rcases crZ17_at h with ⟨rfl, rfl⟩ | ⟨rfl, rfl⟩ | ⟨rfl, rfl⟩ | ⟨rfl, rfl⟩ | h
    · cases hk
    · cases hk
    · cases hk
    · cases hk
    · exact (crY_ok n0 h0).ext f k h hk
  known f rows h := by
    rcases crZ17_at h with ⟨rfl, h⟩ | ⟨rfl, h⟩ | ⟨rfl, h⟩ | ⟨rfl, h⟩ | h
    · cases h
      intro r hr
      simp only [List.mem_cons, List.not_mem_nil, or_false] at hr
      rcases hr with rfl | rfl | rfl | rfl | rfl | rfl | rfl | rfl | rfl | rfl | rfl | rfl | rfl | rfl | rfl | rfl | rfl | rfl | rfl | rfl | rfl | rfl
      · exact crZ17_row n0 h0 rfl rfl crZ17_b15 crH17r3_run
      · exact crZ17_row n0 h0 rfl rfl crZ17_b15 crH17r44_run
      · exact crZ17_row n0 h0 rfl rfl crZ17_b15 crH17r49_run
      · exact crZ17_row n0 h0 rfl rfl crZ17_b15 crH17r54_run
      · exact crZ17_row n0 h0 rfl rfl crZ17_b15 crH17r59_run
      · exact crZ17_row n0 h0 rfl rfl crZ17_b15 crH17r64_run
      · exact crZ17_row n0 h0 rfl rfl crZ17_b15 crH17r69_run
      · exact crZ17_row n0 h0 rfl rfl crZ17_b15 crH17r74_run
      · exact crZ17_row n0 h0 rfl rfl crZ17_b15 crH17r79_run
      · exact crZ17_row n0 h0 rfl rfl crZ17_b15 crH17r84_run
      · exact crZ17_row n0 h0 rfl rfl crZ17_b15 crH17r89_run
      · exact crZ17_row n0 h0 rfl rfl crZ17_b15 crH17r94_run
      · exact crZ17_row n0 h0 rfl rfl crZ17_b15 crH17r99_run
      · exact crZ17_row n0 h0 rfl rfl crZ17_b15 crH17r104_run
      · exact crZ17_row n0 h0 rfl rfl crZ17_b15 crH17r109_run
      · exact crZ17_row n0 h0 rfl rfl crZ17_b15 crH17r114_run
      · exact crZ17_row n0 h0 rfl rfl crZ17_b15 crH17r119_run
      · exact crZ17_row n0 h0 rfl rfl crZ17_b15 crH17r124_run
      · exact crZ17_row n0 h0 rfl rfl crZ17_b15 crH17r129_run
      · exact crZ17_row n0 h0 rfl rfl crZ17_b15 crH17r133_run
      · exact crZ17_row n0 h0 rfl rfl crZ17_b15 crH17r172_run
      · exact crZ17_row n0 h0 rfl rfl crZ17_b15 crH17r173_run
    · cases h
      intro r hr
      simp only [List.mem_cons, List.not_mem_nil, or_false] at hr
      rcases hr with rfl | rfl | rfl | rfl | rfl | rfl | rfl | rfl | rfl | rfl | rfl | rfl | rfl | rfl | rfl | rfl | rfl | rfl | rfl | rfl | rfl | rfl | rfl | rfl | rfl | rfl | rfl | rfl | rfl | rfl | rfl | rfl | rfl | rfl | rfl | rfl | rfl | rfl
      · exact crZ17_row n0 h0 rfl rfl crZ17_b70 crH17r0_run
      · exact crZ17_row n0 h0 rfl rfl crZ17_b70 crH17r5_run
      · exact crZ17_row n0 h0 rfl rfl crZ17_b70 crH17r7_run
      · exact crZ17_row n0 h0 rfl rfl crZ17_b70 crH17r9_run
      · exact crZ17_row n0 h0 rfl rfl crZ17_b70 crH17r11_run
      · exact crZ17_row n0 h0 rfl rfl crZ17_b70 crH17r13_run
      · exact crZ17_row n0 h0 rfl rfl crZ17_b70 crH17r15_run
      · exact crZ17_row n0 h0 rfl rfl crZ17_b70 crH17r17_run
      · exact crZ17_row n0 h0 rfl rfl crZ17_b70 crH17r19_run
      · exact crZ17_row n0 h0 rfl rfl crZ17_b70 crH17r21_run
      · exact crZ17_row n0 h0 rfl rfl crZ17_b70 crH17r23_run
      · exact crZ17_row n0 h0 rfl rfl crZ17_b70 crH17r25_run
      · exact crZ17_row n0 h0 rfl rfl crZ17_b70 crH17r27_run
      · exact crZ17_row n0 h0 rfl rfl crZ17_b70 crH17r29_run
      · exact crZ17_row n0 h0 rfl rfl crZ17_b70 crH17r31_run
      · exact crZ17_row n0 h0 rfl rfl crZ17_b70 crH17r33_run
      · exact crZ17_row n0 h0 rfl rfl crZ17_b70 crH17r35_run
      · exact crZ17_row n0 h0 rfl rfl crZ17_b70 crH17r37_run
      · exact crZ17_row n0 h0 rfl rfl crZ17_b70 crH17r39_run
      · exact crZ17_row n0 h0 rfl rfl crZ17_b70 crH17r41_run
      · exact crZ17_row n0 h0 rfl rfl crZ17_b70 crH17r46_run
      · exact crZ17_row n0 h0 rfl rfl crZ17_b70 crH17r51_run
      · exact crZ17_row n0 h0 rfl rfl crZ17_b70 crH17r56_run
      · exact crZ17_row n0 h0 rfl rfl crZ17_b70 crH17r61_run
      · exact crZ17_row n0 h0 rfl rfl crZ17_b70 crH17r66_run
      · exact crZ17_row n0 h0 rfl rfl crZ17_b70 crH17r71_run
      · exact crZ17_row n0 h0 rfl rfl crZ17_b70 crH17r76_run
      · exact crZ17_row n0 h0 rfl rfl crZ17_b70 crH17r81_run
      · exact crZ17_row n0 h0 rfl rfl crZ17_b70 crH17r86_run
      · exact crZ17_row n0 h0 rfl rfl crZ17_b70 crH17r91_run
      · exact crZ17_row n0 h0 rfl rfl crZ17_b70 crH17r96_run
      · exact crZ17_row n0 h0 rfl rfl crZ17_b70 crH17r101_run
      · exact crZ17_row n0 h0 rfl rfl crZ17_b70 crH17r106_run
      · exact crZ17_row n0 h0 rfl rfl crZ17_b70 crH17r111_run
      · exact crZ17_row n0 h0 rfl rfl crZ17_b70 crH17r116_run
      · exact crZ17_row n0 h0 rfl rfl crZ17_b70 crH17r121_run
      · exact crZ17_row n0 h0 rfl rfl crZ17_b70 crH17r126_run
      · exact crZ17_row n0 h0 rfl rfl crZ17_b70 crH17r131_run
    · cases h
      intro r hr
      simp only [List.mem_cons, List.not_mem_nil, or_false] at hr
      rcases hr with rfl | rfl | rfl | rfl | rfl | rfl | rfl | rfl | rfl | rfl | rfl | rfl | rfl | rfl | rfl | rfl | rfl | rfl | rfl | rfl | rfl | rfl | rfl | rfl | rfl | rfl | rfl | rfl | rfl | rfl | rfl | rfl | rfl | rfl | rfl | rfl | rfl | rfl
      · exact crZ17_row n0 h0 rfl rfl crZ17_b71 crH17r1_run
      · exact crZ17_row n0 h0 rfl rfl crZ17_b71 crH17r6_run
      · exact crZ17_row n0 h0 rfl rfl crZ17_b71 crH17r8_run
      · exact crZ17_row n0 h0 rfl rfl crZ17_b71 crH17r10_run
      · exact crZ17_row n0 h0 rfl rfl crZ17_b71 crH17r12_run
      · exact crZ17_row n0 h0 rfl rfl crZ17_b71 crH17r14_run
      · exact crZ17_row n0 h0 rfl rfl crZ17_b71 crH17r16_run
      · exact crZ17_row n0 h0 rfl rfl crZ17_b71 crH17r18_run
      · exact crZ17_row n0 h0 rfl rfl crZ17_b71 crH17r20_run
      · exact crZ17_row n0 h0 rfl rfl crZ17_b71 crH17r22_run
      · exact crZ17_row n0 h0 rfl rfl crZ17_b71 crH17r24_run
      · exact crZ17_row n0 h0 rfl rfl crZ17_b71 crH17r26_run
      · exact crZ17_row n0 h0 rfl rfl crZ17_b71 crH17r28_run
      · exact crZ17_row n0 h0 rfl rfl crZ17_b71 crH17r30_run
      · exact crZ17_row n0 h0 rfl rfl crZ17_b71 crH17r32_run
      · exact crZ17_row n0 h0 rfl rfl crZ17_b71 crH17r34_run
      · exact crZ17_row n0 h0 rfl rfl crZ17_b71 crH17r36_run
      · exact crZ17_row n0 h0 rfl rfl crZ17_b71 crH17r38_run
      · exact crZ17_row n0 h0 rfl rfl crZ17_b71 crH17r40_run
      · exact crZ17_row n0 h0 rfl rfl crZ17_b71 crH17r42_run
      · exact crZ17_row n0 h0 rfl rfl crZ17_b71 crH17r47_run
      · exact crZ17_row n0 h0 rfl rfl crZ17_b71 crH17r52_run
      · exact crZ17_row n0 h0 rfl rfl crZ17_b71 crH17r57_run
      · exact crZ17_row n0 h0 rfl rfl crZ17_b71 crH17r62_run
      · exact crZ17_row n0 h0 rfl rfl crZ17_b71 crH17r67_run
      · exact crZ17_row n0 h0 rfl rfl crZ17_b71 crH17r72_run
      · exact crZ17_row n0 h0 rfl rfl crZ17_b71 crH17r77_run
      · exact crZ17_row n0 h0 rfl rfl crZ17_b71 crH17r82_run
      · exact crZ17_row n0 h0 rfl rfl crZ17_b71 crH17r87_run
      · exact crZ17_row n0 h0 rfl rfl crZ17_b71 crH17r92_run
      · exact crZ17_row n0 h0 rfl rfl crZ17_b71 crH17r97_run
      · exact crZ17_row n0 h0 rfl rfl crZ17_b71 crH17r102_run
      · exact crZ17_row n0 h0 rfl rfl crZ17_b71 crH17r107_run
      · exact crZ17_row n0 h0 rfl rfl crZ17_b71 crH17r112_run
      · exact crZ17_row n0 h0 rfl rfl crZ17_b71 crH17r117_run
      · exact crZ17_row n0 h0 rfl rfl crZ17_b71 crH17r122_run
      · exact crZ17_row n0 h0 rfl rfl crZ17_b71 crH17r127_run
      · exact crZ17_row n0 h0 rfl rfl crZ17_b71 crH17r132_run
    · cases h
      intro r hr
      simp only [List.mem_cons, List.not_mem_nil, or_false] at hr
      rcases hr with rfl | rfl | rfl | rfl | rfl | rfl | rfl | rfl | rfl | rfl | rfl | rfl | rfl | rfl | rfl | rfl | rfl | rfl | rfl | rfl | rfl | rfl | rfl | rfl | rfl | rfl | rfl | rfl | rfl | rfl | rfl | rfl | rfl | rfl | rfl | rfl | rfl | rfl | rfl | rfl | rfl | rfl | rfl | rfl | rfl | rfl | rfl | rfl | rfl | rfl | rfl | rfl | rfl | rfl | rfl | rfl | rfl | rfl | rfl | rfl | rfl | rfl | rfl | rfl | rfl | rfl | rfl | rfl | rfl | rfl | rfl | rfl | rfl | rfl | rfl | rfl
      · exact crZ17_row n0 h0 rfl rfl crZ17_b85 crH17r2_run
      · exact crZ17_row n0 h0 rfl rfl crZ17_b85 crH17r4_run
      · exact crZ17_row n0 h0 rfl rfl crZ17_b85 crH17r43_run
      · exact crZ17_row n0 h0 rfl rfl crZ17_b85 crH17r45_run
      · exact crZ17_row n0 h0 rfl rfl crZ17_b85 crH17r48_run
      · exact crZ17_row n0 h0 rfl rfl crZ17_b85 crH17r50_run
      · exact crZ17_row n0 h0 rfl rfl crZ17_b85 crH17r53_run
      · exact crZ17_row n0 h0 rfl rfl crZ17_b85 crH17r55_run
      · exact crZ17_row n0 h0 rfl rfl crZ17_b85 crH17r58_run
      · exact crZ17_row n0 h0 rfl rfl crZ17_b85 crH17r60_run
      · exact crZ17_row n0 h0 rfl rfl crZ17_b85 crH17r63_run
      · exact crZ17_row n0 h0 rfl rfl crZ17_b85 crH17r65_run
      · exact crZ17_row n0 h0 rfl rfl crZ17_b85 crH17r68_run
      · exact crZ17_row n0 h0 rfl rfl crZ17_b85 crH17r70_run
      · exact crZ17_row n0 h0 rfl rfl crZ17_b85 crH17r73_run
      · exact crZ17_row n0 h0 rfl rfl crZ17_b85 crH17r75_run
      · exact crZ17_row n0 h0 rfl rfl crZ17_b85 crH17r78_run
      · exact crZ17_row n0 h0 rfl rfl crZ17_b85 crH17r80_run
      · exact crZ17_row n0 h0 rfl rfl crZ17_b85 crH17r83_run
      · exact crZ17_row n0 h0 rfl rfl crZ17_b85 crH17r85_run
      · exact crZ17_row n0 h0 rfl rfl crZ17_b85 crH17r88_run
      · exact crZ17_row n0 h0 rfl rfl crZ17_b85 crH17r90_run
      · exact crZ17_row n0 h0 rfl rfl crZ17_b85 crH17r93_run
      · exact crZ17_row n0 h0 rfl rfl crZ17_b85 crH17r95_run
      · exact crZ17_row n0 h0 rfl rfl crZ17_b85 crH17r98_run
      · exact crZ17_row n0 h0 rfl rfl crZ17_b85 crH17r100_run
      · exact crZ17_row n0 h0 rfl rfl crZ17_b85 crH17r103_run
      · exact crZ17_row n0 h0 rfl rfl crZ17_b85 crH17r105_run
      · exact crZ17_row n0 h0 rfl rfl crZ17_b85 crH17r108_run
      · exact crZ17_row n0 h0 rfl rfl crZ17_b85 crH17r110_run
      · exact crZ17_row n0 h0 rfl rfl crZ17_b85 crH17r113_run
      · exact crZ17_row n0 h0 rfl rfl crZ17_b85 crH17r115_run
      · exact crZ17_row n0 h0 rfl rfl crZ17_b85 crH17r118_run
      · exact crZ17_row n0 h0 rfl rfl crZ17_b85 crH17r120_run
      · exact crZ17_row n0 h0 rfl rfl crZ17_b85 crH17r123_run
      · exact crZ17_row n0 h0 rfl rfl crZ17_b85 crH17r125_run
      · exact crZ17_row n0 h0 rfl rfl crZ17_b85 crH17r128_run
      · exact crZ17_row n0 h0 rfl rfl crZ17_b85 crH17r130_run
      · exact crZ17_row n0 h0 rfl rfl crZ17_b85 crH17r134_run
      · exact crZ17_row n0 h0 rfl rfl crZ17_b85 crH17r135_run
      · exact crZ17_row n0 h0 rfl rfl crZ17_b85 crH17r136_run
      · exact crZ17_row n0 h0 rfl rfl crZ17_b85 crH17r137_run
      · exact crZ17_row n0 h0 rfl rfl crZ17_b85 crH17r138_run
      · exact crZ17_row n0 h0 rfl rfl crZ17_b85 crH17r139_run
      · exact crZ17_row n0 h0 rfl rfl crZ17_b85 crH17r140_run
      · exact crZ17_row n0 h0 rfl rfl crZ17_b85 crH17r141_run
      · exact crZ17_row n0 h0 rfl rfl crZ17_b85 crH17r142_run
      · exact crZ17_row n0 h0 rfl rfl crZ17_b85 crH17r143_run
      · exact crZ17_row n0 h0 rfl rfl crZ17_b85 crH17r144_run
      · exact crZ17_row n0 h0 rfl rfl crZ17_b85 crH17r145_run
      · exact crZ17_row n0 h0 rfl rfl crZ17_b85 crH17r146_run
      · exact crZ17_row n0 h0 rfl rfl crZ17_b85 crH17r147_run
      · exact crZ17_row n0 h0 rfl rfl crZ17_b85 crH17r148_run
      · exact crZ17_row n0 h0 rfl rfl crZ17_b85 crH17r149_run
      · exact crZ17_row n0 h0 rfl rfl crZ17_b85 crH17r150_run
      · exact crZ17_row n0 h0 rfl rfl crZ17_b85 crH17r151_run
      · exact crZ17_row n0 h0 rfl rfl crZ17_b85 crH17r152_run
      · exact crZ17_row n0 h0 rfl rfl crZ17_b85 crH17r153_run
      · exact crZ17_row n0 h0 rfl rfl crZ17_b85 crH17r154_run
      · exact crZ17_row n0 h0 rfl rfl crZ17_b85 crH17r155_run
      · exact crZ17_row n0 h0 rfl rfl crZ17_b85 crH17r156_run
      · exact crZ17_row n0 h0 rfl rfl crZ17_b85 crH17r157_run
      · exact crZ17_row n0 h0 rfl rfl crZ17_b85 crH17r158_run
      · exact crZ17_row n0 h0 rfl rfl crZ17_b85 crH17r159_run
      · exact crZ17_row n0 h0 rfl rfl crZ17_b85 crH17r160_run
      · exact crZ17_row n0 h0 rfl rfl crZ17_b85 crH17r161_run
      · exact crZ17_row n0 h0 rfl rfl crZ17_b85 crH17r162_run
      · exact crZ17_row n0 h0 rfl rfl crZ17_b85 crH17r163_run
      · exact crZ17_row n0 h0 rfl rfl crZ17_b85 crH17r164_run
      · exact crZ17_row n0 h0 rfl rfl crZ17_b85 crH17r165_run
      · exact crZ17_row n0 h0 rfl rfl crZ17_b85 crH17r166_run
      · exact crZ17_row n0 h0 rfl rfl crZ17_b85 crH17r167_run
      · exact crZ17_row n0 h0 rfl rfl crZ17_b85 crH17r168_run
      · exact crZ17_row n0 h0 rfl rfl crZ17_b85 crH17r169_run
      · exact crZ17_row n0 h0 rfl rfl crZ17_b85 crH17r170_run
      · exact crZ17_row n0 h0 rfl rfl crZ17_b85 crH17r171_run
    · exact (crY_ok n0 h0).known f rows h
end Go.Proofs.YtcgdnhkibjldjaaGreatDoor
