/- Part of the proof that the law CheckRecursion answers true: the longest evaluations: the table is sound. No condition. -/
import Derived.Test.YtcgdnhkibjldjaaGreatDoorCheckRecursionY
import Derived.Test.YtcgdnhkibjldjaaGreatDoorCheckRecursionZ15D
namespace Go.Proofs.YtcgdnhkibjldjaaGreatDoor
open Go Go.Sh
theorem crZ15_row [Opq] {ρ0 : Rho} (n0 : Nat) (h0 : ∀ b, 4 ≤ b → ρ0 b = none) {f : Nat} {r : KRow} (h1 : Nat.beq r.nx 0 = false) (h2 : rowSc r = true) (h3 : (bodyOf Tryz.prog f).isSome = true) (h : crH15run f r = true) : KRowOk (LaidI (rowHp .e crBs) ρ0 n0) Tryz.prog f r :=
  krow_of_ev (E := crE) (X := crY) (m := 1000) (by kernel_rfl) ⟨crE_ok⟩ (crY_ok n0 h0) (LaidI.ki rowHp_ro) h1 h2 h3 (by rw [← crHp_eq, ← crHp_eq]; exact h)
theorem crZ15_b15 : (bodyOf Tryz.prog 15).isSome = true := by kernel_rfl
theorem crZ15_b70 : (bodyOf Tryz.prog 70).isSome = true := by kernel_rfl
theorem crZ15_b71 : (bodyOf Tryz.prog 71).isSome = true := by kernel_rfl
theorem crZ15_b85 : (bodyOf Tryz.prog 85).isSome = true := by kernel_rfl
theorem crZ15_at {f : Nat} {k : XK} (h : crZ15 f = some k) : (f = 15 ∧ k = .known [crH15r3, crH15r40, crH15r45, crH15r50, crH15r55, crH15r60, crH15r65, crH15r70, crH15r75, crH15r80, crH15r85, crH15r90, crH15r95, crH15r100, crH15r105, crH15r110, crH15r115, crH15r119, crH15r154, crH15r155]) ∨ (f = 70 ∧ k = .known [crH15r0, crH15r5, crH15r7, crH15r9, crH15r11, crH15r13, crH15r15, crH15r17, crH15r19, crH15r21, crH15r23, crH15r25, crH15r27, crH15r29, crH15r31, crH15r33, crH15r35, crH15r37, crH15r42, crH15r47, crH15r52, crH15r57, crH15r62, crH15r67, crH15r72, crH15r77, crH15r82, crH15r87, crH15r92, crH15r97, crH15r102, crH15r107, crH15r112, crH15r117]) ∨ (f = 71 ∧ k = .known [crH15r1, crH15r6, crH15r8, crH15r10, crH15r12, crH15r14, crH15r16, crH15r18, crH15r20, crH15r22, crH15r24, crH15r26, crH15r28, crH15r30, crH15r32, crH15r34, crH15r36, crH15r38, crH15r43, crH15r48, crH15r53, crH15r58, crH15r63, crH15r68, crH15r73, crH15r78, crH15r83, crH15r88, crH15r93, crH15r98, crH15r103, crH15r108, crH15r113, crH15r118]) ∨ (f = 85 ∧ k = .known [crH15r2, crH15r4, crH15r39, crH15r41, crH15r44, crH15r46, crH15r49, crH15r51, crH15r54, crH15r56, crH15r59, crH15r61, crH15r64, crH15r66, crH15r69, crH15r71, crH15r74, crH15r76, crH15r79, crH15r81, crH15r84, crH15r86, crH15r89, crH15r91, crH15r94, crH15r96, crH15r99, crH15r101, crH15r104, crH15r106, crH15r109, crH15r111, crH15r114, crH15r116, crH15r120, crH15r121, crH15r122, crH15r123, crH15r124, crH15r125, crH15r126, crH15r127, crH15r128, crH15r129, crH15r130, crH15r131, crH15r132, crH15r133, crH15r134, crH15r135, crH15r136, crH15r137, crH15r138, crH15r139, crH15r140, crH15r141, crH15r142, crH15r143, crH15r144, crH15r145, crH15r146, crH15r147, crH15r148, crH15r149, crH15r150, crH15r151, crH15r152, crH15r153]) ∨ crY f = some k := by
  unfold crZ15 at h
  cases hb0 : Nat.beq f 15 with
  | true => rw [hb0, cond_true] at h; cases h; exact .inl ⟨Nat.eq_of_beq_eq_true hb0, rfl⟩
  | false =>
  rw [hb0, cond_false] at h
  cases hb1 : Nat.beq f 70 with
  | true => rw [hb1, cond_true] at h; cases h; exact .inr (.inl ⟨Nat.eq_of_beq_eq_true hb1, rfl⟩)
  | false =>
  rw [hb1, cond_false] at h
  cases hb2 : Nat.beq f 71 with
  | true => rw [hb2, cond_true] at h; cases h; exact .inr (.inr (.inl ⟨Nat.eq_of_beq_eq_true hb2, rfl⟩))
  | false =>
  rw [hb2, cond_false] at h
  cases hb3 : Nat.beq f 85 with
  | true => rw [hb3, cond_true] at h; cases h; exact .inr (.inr (.inr (.inl ⟨Nat.eq_of_beq_eq_true hb3, rfl⟩)))
  | false =>
  rw [hb3, cond_false] at h
  exact .inr (.inr (.inr (.inr h)))
theorem crZ15_ok [Opq] {ρ0 : Rho} (n0 : Nat) (h0 : ∀ b, 4 ≤ b → ρ0 b = none) : XOk (LaidI (rowHp .e crBs) ρ0 n0) Tryz.prog crZ15 where
  ext f k h hk := by
    rcases crZ15_at h with ⟨rfl, rfl⟩ | ⟨rfl, rfl⟩ | ⟨rfl, rfl⟩ | ⟨rfl, rfl⟩ | h
    · cases hk
    · cases hk
    · cases hk
    · cases hk
    · exact (crY_ok n0 h0).ext f k h hk
  known f rows h := by
    rcases crZ15_at h with ⟨rfl, h⟩ | ⟨rfl, h⟩ | ⟨rfl, h⟩ | ⟨rfl, h⟩ | h
    · cases h
      intro r hr
      simp only [List.mem_cons, List.not_mem_nil, or_false] at hr
      rcases hr with rfl | rfl | rfl | rfl | rfl | rfl | rfl | rfl | rfl | rfl | rfl | rfl | rfl | rfl | rfl | rfl | rfl | rfl | rfl | rfl
      · exact crZ15_row n0 h0 rfl rfl crZ15_b15 crH15r3_run
      · exact crZ15_row n0 h0 rfl rfl crZ15_b15 crH15r40_run
      · exact crZ15_row n0 h0 rfl rfl crZ15_b15 crH15r45_run
      · exact crZ15_row n0 h0 rfl rfl crZ15_b15 crH15r50_run
      · exact crZ15_row n0 h0 rfl rfl crZ15_b15 crH15r55_run
      · exact crZ15_row n0 h0 rfl rfl crZ15_b15 crH15r60_run
      · exact crZ15_row n0 h0 rfl rfl crZ15_b15 crH15r65_run
      · exact crZ15_row n0 h0 rfl rfl crZ15_b15 crH15r70_run
      · exact crZ15_row n0 h0 rfl rfl crZ15_b15 crH15r75_run
      · exact crZ15_row n0 h0 rfl rfl crZ15_b15 crH15r80_run
      · exact crZ15_row n0 h0 rfl rfl crZ15_b15 crH15r85_run
      · exact crZ15_row n0 h0 rfl rfl crZ15_b15 crH15r90_run
      · exact crZ15_row n0 h0 rfl rfl crZ15_b15 crH15r95_run
      · exact crZ15_row n0 h0 rfl rfl crZ15_b15 crH15r100_run
      · exact crZ15_row n0 h0 rfl rfl crZ15_b15 crH15r105_run
      · exact crZ15_row n0 h0 rfl rfl crZ15_b15 crH15r110_run
      · exact crZ15_row n0 h0 rfl rfl crZ15_b15 crH15r115_run
      · exact crZ15_row n0 h0 rfl rfl crZ15_b15 crH15r119_run
      · exact crZ15_row n0 h0 rfl rfl crZ15_b15 crH15r154_run
      · exact crZ15_row n0 h0 rfl rfl crZ15_b15 crH15r155_run
    · cases h
      intro r hr
      simp only [List.mem_cons, List.not_mem_nil, or_false] at hr
      rcases hr with rfl | rfl | rfl | rfl | rfl | rfl | rfl | rfl | rfl | rfl | rfl | rfl | rfl | rfl | rfl | rfl | rfl | rfl | rfl | rfl | rfl | rfl | rfl | rfl | rfl | rfl | rfl | rfl | rfl | rfl | rfl | rfl | rfl | rfl
      · exact crZ15_row n0 h0 rfl rfl crZ15_b70 crH15r0_run
      · exact crZ15_row n0 h0 rfl rfl crZ15_b70 crH15r5_run
      · exact crZ15_row n0 h0 rfl rfl crZ15_b70 crH15r7_run
      · exact crZ15_row n0 h0 rfl rfl crZ15_b70 crH15r9_run
      · exact crZ15_row n0 h0 rfl rfl crZ15_b70 crH15r11_run
      · exact crZ15_row n0 h0 rfl rfl crZ15_b70 crH15r13_run
      · exact crZ15_row n0 h0 rfl rfl crZ15_b70 crH15r15_run
      · exact crZ15_row n0 h0 rfl rfl crZ15_b70 crH15r17_run
      · exact crZ15_row n0 h0 rfl rfl crZ15_b70 crH15r19_run
      · exact crZ15_row n0 h0 rfl rfl crZ15_b70 crH15r21_run
      · exact crZ15_row n0 h0 rfl rfl crZ15_b70 crH15r23_run
      · exact crZ15_row n0 h0 rfl rfl crZ15_b70 crH15r25_run
      · exact crZ15_row n0 h0 rfl rfl crZ15_b70 crH15r27_run
      · exact crZ15_row n0 h0 rfl rfl crZ15_b70 crH15r29_run
      · exact crZ15_row n0 h0 rfl rfl crZ15_b70 crH15r31_run
      · exact crZ15_row n0 h0 rfl rfl crZ15_b70 crH15r33_run
      · exact crZ15_row n0 h0 rfl rfl crZ15_b70 crH15r35_run
      · exact crZ15_row n0 h0 rfl rfl crZ15_b70 crH15r37_run
      · exact crZ15_row n0 h0 rfl rfl crZ15_b70 crH15r42_run
      · exact crZ15_row n0 h0 rfl rfl crZ15_b70 crH15r47_run
      · exact crZ15_row n0 h0 rfl rfl crZ15_b70 crH15r52_run
      · exact crZ15_row n0 h0 rfl rfl crZ15_b70 crH15r57_run
      · exact crZ15_row n0 h0 rfl rfl crZ15_b70 crH15r62_run
      · exact crZ15_row n0 h0 rfl rfl crZ15_b70 crH15r67_run
      · exact crZ15_row n0 h0 rfl rfl crZ15_b70 crH15r72_run
      · exact crZ15_row n0 h0 rfl rfl crZ15_b70 crH15r77_run
      · exact crZ15_row n0 h0 rfl rfl crZ15_b70 crH15r82_run
      · exact crZ15_row n0 h0 rfl rfl crZ15_b70 crH15r87_run
      · exact crZ15_row n0 h0 rfl rfl crZ15_b70 crH15r92_run
      · exact crZ15_row n0 h0 rfl rfl crZ15_b70 crH15r97_run
      · exact crZ15_row n0 h0 rfl rfl crZ15_b70 crH15r102_run
      · exact crZ15_row n0 h0 rfl rfl crZ15_b70 crH15r107_run
      · exact crZ15_row n0 h0 rfl rfl crZ15_b70 crH15r112_run
      · exact crZ15_row n0 h0 rfl rfl crZ15_b70 crH15r117_run
    · cases h
      intro r hr
      simp only [List.mem_cons, List.not_mem_nil, or_false] at hr
      rcases hr with rfl | rfl | rfl | rfl | rfl | rfl | rfl | rfl | rfl | rfl | rfl | rfl | rfl | rfl | rfl | rfl | rfl | rfl | rfl | rfl | rfl | rfl | rfl | rfl | rfl | rfl | rfl | rfl | rfl | rfl | rfl | rfl | rfl | rfl
      · exact crZ15_row n0 h0 rfl rfl crZ15_b71 crH15r1_run
      · exact crZ15_row n0 h0 rfl rfl crZ15_b71 crH15r6_run
      · exact crZ15_row n0 h0 rfl rfl crZ15_b71 crH15r8_run
      · exact crZ15_row n0 h0 rfl rfl crZ15_b71 crH15r10_run
      · exact crZ15_row n0 h0 rfl rfl crZ15_b71 crH15r12_run
      · exact crZ15_row n0 h0 rfl rfl crZ15_b71 crH15r14_run
      · exact crZ15_row n0 h0 rfl rfl crZ15_b71 crH15r16_run
      · exact crZ15_row n0 h0 rfl rfl crZ15_b71 crH15r18_run
      · exact crZ15_row n0 h0 rfl rfl crZ15_b71 crH15r20_run
      · exact crZ15_row n0 h0 rfl rfl crZ15_b71 crH15r22_run
      · exact crZ15_row n0 h0 rfl rfl crZ15_b71 crH15r24_run
      · exact crZ15_row n0 h0 rfl rfl crZ15_b71 crH15r26_run
      · exact crZ15_row n0 h0 rfl rfl crZ15_b71 crH15r28_run
      · exact crZ15_row n0 h0 rfl rfl crZ15_b71 crH15r30_run
      · exact crZ15_row n0 h0 rfl rfl crZ15_b71 crH15r32_run
      · exact crZ15_row n0 h0 rfl rfl crZ15_b71 crH15r34_run
      · exact crZ15_row n0 h0 rfl rfl crZ15_b71 crH15r36_run
      · exact crZ15_row n0 h0 rfl rfl crZ15_b71 crH15r38_run
      · exact crZ15_row n0 h0 rfl rfl crZ15_b71 crH15r43_run
      · exact crZ15_row n0 h0 rfl rfl crZ15_b71 crH15r48_run
      · exact crZ15_row n0 h0 rfl rfl crZ15_b71 crH15r53_run
      · exact crZ15_row n0 h0 rfl rfl crZ15_b71 crH15r58_run
      · exact crZ15_row n0 h0 rfl rfl crZ15_b71 crH15r63_run
      · exact crZ15_row n0 h0 rfl rfl crZ15_b71 crH15r68_run
      · exact crZ15_row n0 h0 rfl rfl crZ15_b71 crH15r73_run
      · exact crZ15_row n0 h0 rfl rfl crZ15_b71 crH15r78_run
      · exact crZ15_row n0 h0 rfl rfl crZ15_b71 crH15r83_run
      · exact crZ15_row n0 h0 rfl rfl crZ15_b71 crH15r88_run
      · exact crZ15_row n0 h0 rfl rfl crZ15_b71 crH15r93_run
      · exact crZ15_row n0 h0 rfl rfl crZ15_b71 crH15r98_run
      · exact crZ15_row n0 h0 rfl rfl crZ15_b71 crH15r103_run
      · exact crZ15_row n0 h0 rfl rfl crZ15_b71 crH15r108_run
      · exact crZ15_row n0 h0 rfl rfl crZ15_b71 crH15r113_run
      · exact crZ15_row n0 h0 rfl rfl crZ15_b71 crH15r118_run
    · cases h
      intro r hr
      simp only [List.mem_cons, List.not_mem_nil, or_false] at hr
      rcases hr with rfl | rfl | rfl | rfl | rfl | rfl | rfl | rfl | rfl | rfl | rfl | rfl | rfl | rfl | rfl | rfl | rfl | rfl | rfl | rfl | rfl | rfl | rfl | rfl | rfl | rfl | rfl | rfl | rfl | rfl | rfl | rfl | rfl | rfl | rfl | rfl | rfl | rfl | rfl | rfl | rfl | rfl | rfl | rfl | rfl | rfl | rfl | rfl | rfl | rfl | rfl | rfl | rfl | rfl | rfl | rfl | rfl | rfl | rfl | rfl | rfl | rfl | rfl | rfl | rfl | rfl | rfl | rfl
      · exact crZ15_row n0 h0 rfl rfl crZ15_b85 crH15r2_run
      · exact crZ15_row n0 h0 rfl rfl crZ15_b85 crH15r4_run
      · exact crZ15_row n0 h0 rfl rfl crZ15_b85 crH15r39_run
      · exact crZ15_row n0 h0 rfl rfl crZ15_b85 crH15r41_run
      · exact crZ15_row n0 h0 rfl rfl crZ15_b85 crH15r44_run
      · exact crZ15_row n0 h0 rfl rfl crZ15_b85 crH15r46_run
      · exact crZ15_row n0 h0 rfl rfl crZ15_b85 crH15r49_run
      · exact crZ15_row n0 h0 rfl rfl crZ15_b85 crH15r51_run
      · exact crZ15_row n0 h0 rfl rfl crZ15_b85 crH15r54_run
      · exact crZ15_row n0 h0 rfl rfl crZ15_b85 crH15r56_run
      · exact crZ15_row n0 h0 rfl rfl crZ15_b85 crH15r59_run
      · exact crZ15_row n0 h0 rfl rfl crZ15_b85 crH15r61_run
      · exact crZ15_row n0 h0 rfl rfl crZ15_b85 crH15r64_run
      · exact crZ15_row n0 h0 rfl rfl crZ15_b85 crH15r66_run
      · exact crZ15_row n0 h0 rfl rfl crZ15_b85 crH15r69_run
      · exact crZ15_row n0 h0 rfl rfl crZ15_b85 crH15r71_run
      · exact crZ15_row n0 h0 rfl rfl crZ15_b85 crH15r74_run
      · exact crZ15_row n0 h0 rfl rfl crZ15_b85 crH15r76_run
      · exact crZ15_row n0 h0 rfl rfl crZ15_b85 crH15r79_run
      · exact crZ15_row n0 h0 rfl rfl crZ15_b85 crH15r81_run
      · exact crZ15_row n0 h0 rfl rfl crZ15_b85 crH15r84_run
      · exact crZ15_row n0 h0 rfl rfl crZ15_b85 crH15r86_run
      · exact crZ15_row n0 h0 rfl rfl crZ15_b85 crH15r89_run
      · exact crZ15_row n0 h0 rfl rfl crZ15_b85 crH15r91_run
      · exact crZ15_row n0 h0 rfl rfl crZ15_b85 crH15r94_run
      · exact crZ15_row n0 h0 rfl rfl crZ15_b85 crH15r96_run
      · exact crZ15_row n0 h0 rfl rfl crZ15_b85 crH15r99_run
      · exact crZ15_row n0 h0 rfl rfl crZ15_b85 crH15r101_run
      · exact crZ15_row n0 h0 rfl rfl crZ15_b85 crH15r104_run
      · exact crZ15_row n0 h0 rfl rfl crZ15_b85 crH15r106_run
      · exact crZ15_row n0 h0 rfl rfl crZ15_b85 crH15r109_run
      · exact crZ15_row n0 h0 rfl rfl crZ15_b85 crH15r111_run
      · exact crZ15_row n0 h0 rfl rfl crZ15_b85 crH15r114_run
      · exact crZ15_row n0 h0 rfl rfl crZ15_b85 crH15r116_run
      · exact crZ15_row n0 h0 rfl rfl crZ15_b85 crH15r120_run
      · exact crZ15_row n0 h0 rfl rfl crZ15_b85 crH15r121_run
      · exact crZ15_row n0 h0 rfl rfl crZ15_b85 crH15r122_run
      · exact crZ15_row n0 h0 rfl rfl crZ15_b85 crH15r123_run
      · exact crZ15_row n0 h0 rfl rfl crZ15_b85 crH15r124_run
      · exact crZ15_row n0 h0 rfl rfl crZ15_b85 crH15r125_run
      · exact crZ15_row n0 h0 rfl rfl crZ15_b85 crH15r126_run
      · exact crZ15_row n0 h0 rfl rfl crZ15_b85 crH15r127_run
      · exact crZ15_row n0 h0 rfl rfl crZ15_b85 crH15r128_run
      · exact crZ15_row n0 h0 rfl rfl crZ15_b85 crH15r129_run
      · exact crZ15_row n0 h0 rfl rfl crZ15_b85 crH15r130_run
      · exact crZ15_row n0 h0 rfl rfl crZ15_b85 crH15r131_run
      · exact crZ15_row n0 h0 rfl rfl crZ15_b85 crH15r132_run
      · exact crZ15_row n0 h0 rfl rfl crZ15_b85 crH15r133_run
      · exact crZ15_row n0 h0 rfl rfl crZ15_b85 crH15r134_run
      · exact crZ15_row n0 h0 rfl rfl crZ15_b85 crH15r135_run
      · exact crZ15_row n0 h0 rfl rfl crZ15_b85 crH15r136_run
      · exact crZ15_row n0 h0 rfl rfl crZ15_b85 crH15r137_run
      · exact crZ15_row n0 h0 rfl rfl crZ15_b85 crH15r138_run
      · exact crZ15_row n0 h0 rfl rfl crZ15_b85 crH15r139_run
      · exact crZ15_row n0 h0 rfl rfl crZ15_b85 crH15r140_run
      · exact crZ15_row n0 h0 rfl rfl crZ15_b85 crH15r141_run
      · exact crZ15_row n0 h0 rfl rfl crZ15_b85 crH15r142_run
      · exact crZ15_row n0 h0 rfl rfl crZ15_b85 crH15r143_run
      · exact crZ15_row n0 h0 rfl rfl crZ15_b85 crH15r144_run
      · exact crZ15_row n0 h0 rfl rfl crZ15_b85 crH15r145_run
      · exact crZ15_row n0 h0 rfl rfl crZ15_b85 crH15r146_run
      · exact crZ15_row n0 h0 rfl rfl crZ15_b85 crH15r147_run
      · exact crZ15_row n0 h0 rfl rfl crZ15_b85 crH15r148_run
      · exact crZ15_row n0 h0 rfl rfl crZ15_b85 crH15r149_run
      · exact crZ15_row n0 h0 rfl rfl crZ15_b85 crH15r150_run
      · exact crZ15_row n0 h0 rfl rfl crZ15_b85 crH15r151_run
      · exact crZ15_row n0 h0 rfl rfl crZ15_b85 crH15r152_run
      · exact crZ15_row n0 h0 rfl rfl crZ15_b85 crH15r153_run
    · exact (crY_ok n0 h0).known f rows h
end Go.Proofs.YtcgdnhkibjldjaaGreatDoor
