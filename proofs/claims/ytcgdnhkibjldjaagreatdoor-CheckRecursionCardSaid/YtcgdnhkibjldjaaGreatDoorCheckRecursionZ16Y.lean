/- Part of the proof that the law CheckRecursion answers true: the longest evaluations: the table is sound. No condition. -/
import Derived.Test.YtcgdnhkibjldjaaGreatDoorCheckRecursionY
import Derived.Test.YtcgdnhkibjldjaaGreatDoorCheckRecursionZ16D
namespace Go.Proofs.YtcgdnhkibjldjaaGreatDoor
open Go Go.Sh
theorem crZ16_row [Opq] {ρ0 : Rho} (n0 : Nat) (h0 : ∀ b, 4 ≤ b → ρ0 b = none) {f : Nat} {r : KRow} (h1 : Nat.beq r.nx 0 = false) (h2 : rowSc r = true) (h3 : (bodyOf Tryz.prog f).isSome = true) (h : crH16run f r = true) : KRowOk (LaidI (rowHp .e crBs) ρ0 n0) Tryz.prog f r :=
  krow_of_ev (E := crE) (X := crY) (m := 1000) (by kernel_rfl) ⟨crE_ok⟩ (crY_ok n0 h0) (LaidI.ki rowHp_ro) h1 h2 h3 (by rw [← crHp_eq, ← crHp_eq]; exact h)
theorem crZ16_b15 : (bodyOf Tryz.prog 15).isSome = true := by kernel_rfl
theorem crZ16_b70 : (bodyOf Tryz.prog 70).isSome = true := by kernel_rfl
theorem crZ16_b71 : (bodyOf Tryz.prog 71).isSome = true := by kernel_rfl
theorem crZ16_b85 : (bodyOf Tryz.prog 85).isSome = true := by kernel_rfl
theorem crZ16_at {f : Nat} {k : XK} (h : crZ16 f = some k) : (f = 15 ∧ k = .known [crH16r3, crH16r42, crH16r47, crH16r52, crH16r57, crH16r62, crH16r67, crH16r72, crH16r77, crH16r82, crH16r87, crH16r92, crH16r97, crH16r102, crH16r107, crH16r112, crH16r117, crH16r122, crH16r126, crH16r163, crH16r164]) ∨ (f = 70 ∧ k = .known [crH16r0, crH16r5, crH16r7, crH16r9, crH16r11, crH16r13, crH16r15, crH16r17, crH16r19, crH16r21, crH16r23, crH16r25, crH16r27, crH16r29, crH16r31, crH16r33, crH16r35, crH16r37, crH16r39, crH16r44, crH16r49, crH16r54, crH16r59, crH16r64, crH16r69, crH16r74, crH16r79, crH16r84, crH16r89, crH16r94, crH16r99, crH16r104, crH16r109, crH16r114, crH16r119, crH16r124]) ∨ (f = 71 ∧ k = .known [crH16r1, crH16r6, crH16r8, crH16r10, crH16r12, crH16r14, crH16r16, crH16r18, crH16r20, crH16r22, crH16r24, crH16r26, crH16r28, crH16r30, crH16r32, crH16r34, crH16r36, crH16r38, crH16r40, crH16r45, crH16r50, crH16r55, crH16r60, crH16r65, crH16r70, crH16r75, crH16r80, crH16r85, crH16r90, crH16r95, crH16r100, crH16r105, crH16r110, crH16r115, crH16r120, crH16r125]) ∨ (f = 85 ∧ k = .known [crH16r2, crH16r4, crH16r41, crH16r43, crH16r46, crH16r48, crH16r51, crH16r53, crH16r56, crH16r58, crH16r61, crH16r63, crH16r66, crH16r68, crH16r71, crH16r73, crH16r76, crH16r78, crH16r81, crH16r83, crH16r86, crH16r88, crH16r91, crH16r93, crH16r96, crH16r98, crH16r101, crH16r103, crH16r106, crH16r108, crH16r111, crH16r113, crH16r116, crH16r118, crH16r121, crH16r123, crH16r127, crH16r128, crH16r129, crH16r130, crH16r131, crH16r132, crH16r133, crH16r134, crH16r135, crH16r136, crH16r137, crH16r138, crH16r139, crH16r140, crH16r141, crH16r142, crH16r143, crH16r144, crH16r145, crH16r146, crH16r147, crH16r148, crH16r149, crH16r150, crH16r151, crH16r152, crH16r153, crH16r154, crH16r155, crH16r156, crH16r157, crH16r158, crH16r159, crH16r160, crH16r161, crH16r162]) ∨ crY f = some k := by
  unfold crZ16 at h
  cases hb0 : Nat.beq f 15 with
  | true => rw [hb0, cond_true] at h; cases h; exact .inl ⟨Nat.eq_of_beq_eq_true hb0, rfl⟩
  | false =>
  rw [hb0, cond_false] at h
  cases hb1 : Nat.beq f 70 with
  | true => rw [hb1, cond_true] at h; cases h; exact .inr (.inl ⟨Nat.eq_of_beq_eq_true hb1, rfl⟩)
  | false =>
  rw [hb1, cond_false] at h
  cases hb2 : Nat.beq f 71 with
  | true => rw [hb2, cond_true] at h; cases h; exact .inr (.inr (.inl ⟨Nat.eq_of_beq_eq_true hb2, rfl⟩))
  | false =>
  rw [hb2, cond_false] at h
  cases hb3 : Nat.beq f 85 with
  | true => rw [hb3, cond_true] at h; cases h; exact .inr (.inr (.inr (.inl ⟨Nat.eq_of_beq_eq_true hb3, rfl⟩)))
  | false =>
  rw [hb3, cond_false] at h
  exact .inr (.inr (.inr (.inr h)))
theorem crZ16_ok [Opq] {ρ0 : Rho} (n0 : Nat) (h0 : ∀ b, 4 ≤ b → ρ0 b = none) : XOk (LaidI (rowHp .e crBs) ρ0 n0) Tryz.prog crZ16 where
  ext f k h hk := by
    rcases crZ16_at h with ⟨rfl, rfl⟩ | ⟨rfl, rfl⟩ | ⟨rfl, rfl⟩ | ⟨rfl, rfl⟩ | h
    · cases hk
    · cases hk
    · cases hk
    · cases hk
    · exact (crY_ok n0 h0).ext f k h hk
  known f rows h := by
    rcases crZ16_at h with ⟨rfl, h⟩ | ⟨rfl, h⟩ | ⟨rfl, h⟩ | ⟨rfl, h⟩ | h
    · cases h
      intro r hr
      simp only [List.mem_cons, List.not_mem_nil, or_false] at hr
      rcases hr with rfl | rfl | rfl | rfl | rfl | rfl | rfl | rfl | rfl | rfl | rfl | rfl | rfl | rfl | rfl | rfl | rfl | rfl | rfl | rfl | rfl
      · exact crZ16_row n0 h0 rfl rfl crZ16_b15 crH16r3_run
      · exact crZ16_row n0 h0 rfl rfl crZ16_b15 crH16r42_run
      · exact crZ16_row n0 h0 rfl rfl crZ16_b15 crH16r47_run
      · exact crZ16_row n0 h0 rfl rfl crZ16_b15 crH16r52_run
      · exact crZ16_row n0 h0 rfl rfl crZ16_b15 crH16r57_run
      · exact crZ16_row n0 h0 rfl rfl crZ16_b15 crH16r62_run
      · exact crZ16_row n0 h0 rfl rfl crZ16_b15 crH16r67_run
      · exact crZ16_row n0 h0 rfl rfl crZ16_b15 crH16r72_run
      · exact crZ16_row n0 h0 rfl rfl crZ16_b15 crH16r77_run
      · exact crZ16_row n0 h0 rfl rfl crZ16_b15 crH16r82_run
      · exact crZ16_row n0 h0 rfl rfl crZ16_b15 crH16r87_run
      · exact crZ16_row n0 h0 rfl rfl crZ16_b15 crH16r92_run
      · exact crZ16_row n0 h0 rfl rfl crZ16_b15 crH16r97_run
      · exact crZ16_row n0 h0 rfl rfl crZ16_b15 crH16r102_run
      · exact crZ16_row n0 h0 rfl rfl crZ16_b15 crH16r107_run
      · exact crZ16_row n0 h0 rfl rfl crZ16_b15 crH16r112_run
      · exact crZ16_row n0 h0 rfl rfl crZ16_b15 crH16r117_run
      · exact crZ16_row n0 h0 rfl rfl crZ16_b15 crH16r122_run
      · exact crZ16_row n0 h0 rfl rfl crZ16_b15 crH16r126_run
      · exact crZ16_row n0 h0 rfl rfl crZ16_b15 crH16r163_run
      · exact crZ16_row n0 h0 rfl rfl crZ16_b15 crH16r164_run
    · cases h
      intro r hr
      simp only [List.mem_cons, List.not_mem_nil, or_false] at hr
      rcases hr with rfl | rfl | rfl | rfl | rfl | rfl | rfl | rfl | rfl | rfl | rfl | rfl | rfl | rfl | rfl | rfl | rfl | rfl | rfl | rfl | rfl | rfl | rfl | rfl | rfl | rfl | rfl | rfl | rfl | rfl | rfl | rfl | rfl | rfl | rfl | rfl
      · exact crZ16_row n0 h0 rfl rfl crZ16_b70 crH16r0_run
      · exact crZ16_row n0 h0 rfl rfl crZ16_b70 crH16r5_run
      · exact crZ16_row n0 h0 rfl rfl crZ16_b70 crH16r7_run
      · exact crZ16_row n0 h0 rfl rfl crZ16_b70 crH16r9_run
      · exact crZ16_row n0 h0 rfl rfl crZ16_b70 crH16r11_run
      · exact crZ16_row n0 h0 rfl rfl crZ16_b70 crH16r13_run
      · exact crZ16_row n0 h0 rfl rfl crZ16_b70 crH16r15_run
      · exact crZ16_row n0 h0 rfl rfl crZ16_b70 crH16r17_run
      · exact crZ16_row n0 h0 rfl rfl crZ16_b70 crH16r19_run
      · exact crZ16_row n0 h0 rfl rfl crZ16_b70 crH16r21_run
      · exact crZ16_row n0 h0 rfl rfl crZ16_b70 crH16r23_run
      · exact crZ16_row n0 h0 rfl rfl crZ16_b70 crH16r25_run
      · exact crZ16_row n0 h0 rfl rfl crZ16_b70 crH16r27_run
      · exact crZ16_row n0 h0 rfl rfl crZ16_b70 crH16r29_run
      · exact crZ16_row n0 h0 rfl rfl crZ16_b70 crH16r31_run
      · exact crZ16_row n0 h0 rfl rfl crZ16_b70 crH16r33_run
      · exact crZ16_row n0 h0 rfl rfl crZ16_b70 crH16r35_run
      · exact crZ16_row n0 h0 rfl rfl crZ16_b70 crH16r37_run
      · exact crZ16_row n0 h0 rfl rfl crZ16_b70 crH16r39_run
      · exact crZ16_row n0 h0 rfl rfl crZ16_b70 crH16r44_run
      · exact crZ16_row n0 h0 rfl rfl crZ16_b70 crH16r49_run
      · exact crZ16_row n0 h0 rfl rfl crZ16_b70 crH16r54_run
      · exact crZ16_row n0 h0 rfl rfl crZ16_b70 crH16r59_run
      · exact crZ16_row n0 h0 rfl rfl crZ16_b70 crH16r64_run
      · exact crZ16_row n0 h0 rfl rfl crZ16_b70 crH16r69_run
      · exact crZ16_row n0 h0 rfl rfl crZ16_b70 crH16r74_run
      · exact crZ16_row n0 h0 rfl rfl crZ16_b70 crH16r79_run
      · exact crZ16_row n0 h0 rfl rfl crZ16_b70 crH16r84_run
      · exact crZ16_row n0 h0 rfl rfl crZ16_b70 crH16r89_run
      · exact crZ16_row n0 h0 rfl rfl crZ16_b70 crH16r94_run
      · exact crZ16_row n0 h0 rfl rfl crZ16_b70 crH16r99_run
      · exact crZ16_row n0 h0 rfl rfl crZ16_b70 crH16r104_run
      · exact crZ16_row n0 h0 rfl rfl crZ16_b70 crH16r109_run
      · exact crZ16_row n0 h0 rfl rfl crZ16_b70 crH16r114_run
      · exact crZ16_row n0 h0 rfl rfl crZ16_b70 crH16r119_run
      · exact crZ16_row n0 h0 rfl rfl crZ16_b70 crH16r124_run
    · cases h
      intro r hr
      simp only [List.mem_cons, List.not_mem_nil, or_false] at hr
      rcases hr with rfl | rfl | rfl | rfl | rfl | rfl | rfl | rfl | rfl | rfl | rfl | rfl | rfl | rfl | rfl | rfl | rfl | rfl | rfl | rfl | rfl | rfl | rfl | rfl | rfl | rfl | rfl | rfl | rfl | rfl | rfl | rfl | rfl | rfl | rfl | rfl
      · exact crZ16_row n0 h0 rfl rfl crZ16_b71 crH16r1_run
      · exact crZ16_row n0 h0 rfl rfl crZ16_b71 crH16r6_run
      · exact crZ16_row n0 h0 rfl rfl crZ16_b71 crH16r8_run
      · exact crZ16_row n0 h0 rfl rfl crZ16_b71 crH16r10_run
      · exact crZ16_row n0 h0 rfl rfl crZ16_b71 crH16r12_run
      · exact crZ16_row n0 h0 rfl rfl crZ16_b71 crH16r14_run
      · exact crZ16_row n0 h0 rfl rfl crZ16_b71 crH16r16_run
      · exact crZ16_row n0 h0 rfl rfl crZ16_b71 crH16r18_run
      · exact crZ16_row n0 h0 rfl rfl crZ16_b71 crH16r20_run
      · exact crZ16_row n0 h0 rfl rfl crZ16_b71 crH16r22_run
      · exact crZ16_row n0 h0 rfl rfl crZ16_b71 crH16r24_run
      · exact crZ16_row n0 h0 rfl rfl crZ16_b71 crH16r26_run
      · exact crZ16_row n0 h0 rfl rfl crZ16_b71 crH16r28_run
      · exact crZ16_row n0 h0 rfl rfl crZ16_b71 crH16r30_run
      · exact crZ16_row n0 h0 rfl rfl crZ16_b71 crH16r32_run
      · exact crZ16_row n0 h0 rfl rfl crZ16_b71 crH16r34_run
      · exact crZ16_row n0 h0 rfl rfl crZ16_b71 crH16r36_run
      · exact crZ16_row n0 h0 rfl rfl crZ16_b71 crH16r38_run
      · exact crZ16_row n0 h0 rfl rfl crZ16_b71 crH16r40_run
      · exact crZ16_row n0 h0 rfl rfl crZ16_b71 crH16r45_run
      · exact crZ16_row n0 h0 rfl rfl crZ16_b71 crH16r50_run
      · exact crZ16_row n0 h0 rfl rfl crZ16_b71 crH16r55_run
      · exact crZ16_row n0 h0 rfl rfl crZ16_b71 crH16r60_run
      · exact crZ16_row n0 h0 rfl rfl crZ16_b71 crH16r65_run
      · exact crZ16_row n0 h0 rfl rfl crZ16_b71 crH16r70_run
      · exact crZ16_row n0 h0 rfl rfl crZ16_b71 crH16r75_run
      · exact crZ16_row n0 h0 rfl rfl crZ16_b71 crH16r80_run
      · exact crZ16_row n0 h0 rfl rfl crZ16_b71 crH16r85_run
      · exact crZ16_row n0 h0 rfl rfl crZ16_b71 crH16r90_run
      · exact crZ16_row n0 h0 rfl rfl crZ16_b71 crH16r95_run
      · exact crZ16_row n0 h0 rfl rfl crZ16_b71 crH16r100_run
      · exact crZ16_row n0 h0 rfl rfl crZ16_b71 crH16r105_run
      · exact crZ16_row n0 h0 rfl rfl crZ16_b71 crH16r110_run
      · exact crZ16_row n0 h0 rfl rfl crZ16_b71 crH16r115_run
      · exact crZ16_row n0 h0 rfl rfl crZ16_b71 crH16r120_run
      · exact crZ16_row n0 h0 rfl rfl crZ16_b71 crH16r125_run
    · cases h
      intro r hr
      simp only [List.mem_cons, List.not_mem_nil, or_false] at hr
      rcases hr with rfl | rfl | rfl | rfl | rfl | rfl | rfl | rfl | rfl | rfl | rfl | rfl | rfl | rfl | rfl | rfl | rfl | rfl | rfl | rfl | rfl | rfl | rfl | rfl | rfl | rfl | rfl | rfl | rfl | rfl | rfl | rfl | rfl | rfl | rfl | rfl | rfl | rfl | rfl | rfl | rfl | rfl | rfl | rfl | rfl | rfl | rfl | rfl | rfl | rfl | rfl | rfl | rfl | rfl | rfl | rfl | rfl | rfl | rfl | rfl | rfl | rfl | rfl | rfl | rfl | rfl | rfl | rfl | rfl | rfl | rfl | rfl
      · exact crZ16_row n0 h0 rfl rfl crZ16_b85 crH16r2_run
      · exact crZ16_row n0 h0 rfl rfl crZ16_b85 crH16r4_run
      · exact crZ16_row n0 h0 rfl rfl crZ16_b85 crH16r41_run
      · exact crZ16_row n0 h0 rfl rfl crZ16_b85 crH16r43_run
      · exact crZ16_row n0 h0 rfl rfl crZ16_b85 crH16r46_run
      · exact crZ16_row n0 h0 rfl rfl crZ16_b85 crH16r48_run
      · exact crZ16_row n0 h0 rfl rfl crZ16_b85 crH16r51_run
      · exact crZ16_row n0 h0 rfl rfl crZ16_b85 crH16r53_run
      · exact crZ16_row n0 h0 rfl rfl crZ16_b85 crH16r56_run
      · exact crZ16_row n0 h0 rfl rfl crZ16_b85 crH16r58_run
      · exact crZ16_row n0 h0 rfl rfl crZ16_b85 crH16r61_run
      · exact crZ16_row n0 h0 rfl rfl crZ16_b85 crH16r63_run
      · exact crZ16_row n0 h0 rfl rfl crZ16_b85 crH16r66_run
      · exact crZ16_row n0 h0 rfl rfl crZ16_b85 crH16r68_run
      · exact crZ16_row n0 h0 rfl rfl crZ16_b85 crH16r71_run
      · exact crZ16_row n0 h0 rfl rfl crZ16_b85 crH16r73_run
      · exact crZ16_row n0 h0 rfl rfl crZ16_b85 crH16r76_run
      · exact crZ16_row n0 h0 rfl rfl crZ16_b85 crH16r78_run
      · exact crZ16_row n0 h0 rfl rfl crZ16_b85 crH16r81_run
      · exact crZ16_row n0 h0 rfl rfl crZ16_b85 crH16r83_run
      · exact crZ16_row n0 h0 rfl rfl crZ16_b85 crH16r86_run
      · exact crZ16_row n0 h0 rfl rfl crZ16_b85 crH16r88_run
      · exact crZ16_row n0 h0 rfl rfl crZ16_b85 crH16r91_run
      · exact crZ16_row n0 h0 rfl rfl crZ16_b85 crH16r93_run
      · exact crZ16_row n0 h0 rfl rfl crZ16_b85 crH16r96_run
      · exact crZ16_row n0 h0 rfl rfl crZ16_b85 crH16r98_run
      · exact crZ16_row n0 h0 rfl rfl crZ16_b85 crH16r101_run
      · exact crZ16_row n0 h0 rfl rfl crZ16_b85 crH16r103_run
      · exact crZ16_row n0 h0 rfl rfl crZ16_b85 crH16r106_run
      · exact crZ16_row n0 h0 rfl rfl crZ16_b85 crH16r108_run
      · exact crZ16_row n0 h0 rfl rfl crZ16_b85 crH16r111_run
      · exact crZ16_row n0 h0 rfl rfl crZ16_b85 crH16r113_run
      · exact crZ16_row n0 h0 rfl rfl crZ16_b85 crH16r116_run
      · exact crZ16_row n0 h0 rfl rfl crZ16_b85 crH16r118_run
      · exact crZ16_row n0 h0 rfl rfl crZ16_b85 crH16r121_run
      · exact crZ16_row n0 h0 rfl rfl crZ16_b85 crH16r123_run
      · exact crZ16_row n0 h0 rfl rfl crZ16_b85 crH16r127_run
      · exact crZ16_row n0 h0 rfl rfl crZ16_b85 crH16r128_run
      · exact crZ16_row n0 h0 rfl rfl crZ16_b85 crH16r129_run
      · exact crZ16_row n0 h0 rfl rfl crZ16_b85 crH16r130_run
      · exact crZ16_row n0 h0 rfl rfl crZ16_b85 crH16r131_run
      · exact crZ16_row n0 h0 rfl rfl crZ16_b85 crH16r132_run
      · exact crZ16_row n0 h0 rfl rfl crZ16_b85 crH16r133_run
      · exact crZ16_row n0 h0 rfl rfl crZ16_b85 crH16r134_run
      · exact crZ16_row n0 h0 rfl rfl crZ16_b85 crH16r135_run
      · exact crZ16_row n0 h0 rfl rfl crZ16_b85 crH16r136_run
      · exact crZ16_row n0 h0 rfl rfl crZ16_b85 crH16r137_run
      · exact crZ16_row n0 h0 rfl rfl crZ16_b85 crH16r138_run
      · exact crZ16_row n0 h0 rfl rfl crZ16_b85 crH16r139_run
      · exact crZ16_row n0 h0 rfl rfl crZ16_b85 crH16r140_run
      · exact crZ16_row n0 h0 rfl rfl crZ16_b85 crH16r141_run
      · exact crZ16_row n0 h0 rfl rfl crZ16_b85 crH16r142_run
      · exact crZ16_row n0 h0 rfl rfl crZ16_b85 crH16r143_run
      · exact crZ16_row n0 h0 rfl rfl crZ16_b85 crH16r144_run
      · exact crZ16_row n0 h0 rfl rfl crZ16_b85 crH16r145_run
      · exact crZ16_row n0 h0 rfl rfl crZ16_b85 crH16r146_run
      · exact crZ16_row n0 h0 rfl rfl crZ16_b85 crH16r147_run
      · exact crZ16_row n0 h0 rfl rfl crZ16_b85 crH16r148_run
      · exact crZ16_row n0 h0 rfl rfl crZ16_b85 crH16r149_run
      · exact crZ16_row n0 h0 rfl rfl crZ16_b85 crH16r150_run
      · exact crZ16_row n0 h0 rfl rfl crZ16_b85 crH16r151_run
      · exact crZ16_row n0 h0 rfl rfl crZ16_b85 crH16r152_run
      · exact crZ16_row n0 h0 rfl rfl crZ16_b85 crH16r153_run
      · exact crZ16_row n0 h0 rfl rfl crZ16_b85 crH16r154_run
      · exact crZ16_row n0 h0 rfl rfl crZ16_b85 crH16r155_run
      · exact crZ16_row n0 h0 rfl rfl crZ16_b85 crH16r156_run
      · exact crZ16_row n0 h0 rfl rfl crZ16_b85 crH16r157_run
      · exact crZ16_row n0 h0 rfl rfl crZ16_b85 crH16r158_run
      · exact crZ16_row n0 h0 rfl rfl crZ16_b85 crH16r159_run
      · exact crZ16_row n0 h0 rfl rfl crZ16_b85 crH16r160_run
      · exact crZ16_row n0 h0 rfl rfl crZ16_b85 crH16r161_run
      · exact crZ16_row n0 h0 rfl rfl crZ16_b85 crH16r162_run
    · exact (crY_ok n0 h0).known f rows h
end Go.Proofs.YtcgdnhkibjldjaaGreatDoor
