/- Part of the proof that the law PostureKnown answers true: the law itself, and the tied card. No condition. -/
import Derived.Test.YtofjdobekahmlaaGreatDoorTie
import Derived.Test.YtofjdobekahmlaaGreatDoorCards
import Derived.Test.YtofjdobekahmlaaGreatDoorPostureKnownB
import Derived.Test.YtofjdobekahmlaaGreatDoorPostureKnownR0
import Derived.Test.YtofjdobekahmlaaGreatDoorPostureKnownR1
import Derived.Test.YtofjdobekahmlaaGreatDoorPostureKnownR2
namespace Go.Proofs.YtofjdobekahmlaaGreatDoor
open Go Go.Sh Go.ChangeShapes Go.WideShapes Go.ChangeAt Go.RowKit
/-- the externs, and the calls that are known -/
def postureKnownY (f : Nat) : Option XK := cond (Nat.beq f 7) (some (.known [postureKnownR0, postureKnownR1, postureKnownR2, postureKnownR3, postureKnownR4, postureKnownR5, postureKnownR6, postureKnownR7, postureKnownR8, postureKnownR9])) (cond (Nat.beq f 9) (some (.known [postureKnownR10, postureKnownR11, postureKnownR12, postureKnownR13, postureKnownR14, postureKnownR15, postureKnownR16, postureKnownR17, postureKnownR18, postureKnownR19])) (cond (Nat.beq f 10) (some (.known [postureKnownR20])) (cond (Nat.beq f 11) (some (.known [postureKnownR21])) (postureKnownX f))))
theorem postureKnownY_at {f : Nat} {k : XK} (h : postureKnownY f = some k) : (f = 7 ∧ k = .known [postureKnownR0, postureKnownR1, postureKnownR2, postureKnownR3, postureKnownR4, postureKnownR5, postureKnownR6, postureKnownR7, postureKnownR8, postureKnownR9]) ∨ (f = 9 ∧ k = .known [postureKnownR10, postureKnownR11, postureKnownR12, postureKnownR13, postureKnownR14, postureKnownR15, postureKnownR16, postureKnownR17, postureKnownR18, postureKnownR19]) ∨ (f = 10 ∧ k = .known [postureKnownR20]) ∨ (f = 11 ∧ k = .known [postureKnownR21]) ∨ postureKnownX f = some k := by
  unfold postureKnownY at h
  cases hb0 : Nat.beq f 7 with
  | true => rw [hb0, cond_true] at h; cases h; exact .inl ⟨Nat.eq_of_beq_eq_true hb0, rfl⟩
  | false =>
  rw [hb0, cond_false] at h
  cases hb1 : Nat.beq f 9 with
  | true => rw [hb1, cond_true] at h; cases h; exact .inr (.inl ⟨Nat.eq_of_beq_eq_true hb1, rfl⟩)
  | false =>
  rw [hb1, cond_false] at h
  cases hb2 : Nat.beq f 10 with
  | true => rw [hb2, cond_true] at h; cases h; exact .inr (.inr (.inl ⟨Nat.eq_of_beq_eq_true hb2, rfl⟩))
  | false =>
  rw [hb2, cond_false] at h
  cases hb3 : Nat.beq f 11 with
  | true => rw [hb3, cond_true] at h; cases h; exact .inr (.inr (.inr (.inl ⟨Nat.eq_of_beq_eq_true hb3, rfl⟩)))
  | false =>
  rw [hb3, cond_false] at h
  exact .inr (.inr (.inr (.inr h)))
theorem postureKnownY_ok (ρ0 : Rho) (n0 : Nat) : XOk (LaidI (rowHp .e postureKnownBs) ρ0 n0) Tryz.prog postureKnownY where
  ext f k h hk := by
    rcases postureKnownY_at h with ⟨rfl, rfl⟩ | ⟨rfl, rfl⟩ | ⟨rfl, rfl⟩ | ⟨rfl, rfl⟩ | h
    · cases hk
    · cases hk
    · cases hk
    · cases hk
    · exact (postureKnownX_ok _).ext f k h hk
  known f rows h := by
    rcases postureKnownY_at h with ⟨rfl, h⟩ | ⟨rfl, h⟩ | ⟨rfl, h⟩ | ⟨rfl, h⟩ | h
    · cases h
      intro r hr
      simp only [List.mem_cons, List.not_mem_nil, or_false] at hr
      rcases hr with rfl | rfl | rfl | rfl | rfl | rfl | rfl | rfl | rfl | rfl
      · exact postureKnownR0_ok ρ0 n0
      · exact postureKnownR1_ok ρ0 n0
      · exact postureKnownR2_ok ρ0 n0
      · exact postureKnownR3_ok ρ0 n0
      · exact postureKnownR4_ok ρ0 n0
      · exact postureKnownR5_ok ρ0 n0
      · exact postureKnownR6_ok ρ0 n0
      · exact postureKnownR7_ok ρ0 n0
      · exact postureKnownR8_ok ρ0 n0
      · exact postureKnownR9_ok ρ0 n0
    · cases h
      intro r hr
      simp only [List.mem_cons, List.not_mem_nil, or_false] at hr
      rcases hr with rfl | rfl | rfl | rfl | rfl | rfl | rfl | rfl | rfl | rfl
      · exact postureKnownR10_ok ρ0 n0
      · exact postureKnownR11_ok ρ0 n0
      · exact postureKnownR12_ok ρ0 n0
      · exact postureKnownR13_ok ρ0 n0
      · exact postureKnownR14_ok ρ0 n0
      · exact postureKnownR15_ok ρ0 n0
      · exact postureKnownR16_ok ρ0 n0
      · exact postureKnownR17_ok ρ0 n0
      · exact postureKnownR18_ok ρ0 n0
      · exact postureKnownR19_ok ρ0 n0
    · cases h
      intro r hr
      simp only [List.mem_cons, List.not_mem_nil, or_false] at hr
      subst hr
      · exact postureKnownR20_ok ρ0 n0
    · cases h
      intro r hr
      simp only [List.mem_cons, List.not_mem_nil, or_false] at hr
      subst hr
      · exact postureKnownR21_ok ρ0 n0
    · exact (postureKnownX_ok _).known f rows h
theorem postureKnown_run : (ev postureKnownE postureKnownY Tryz.prog 1001).f 3 [] ⟨rowHp .e postureKnownBs, 6, big⟩ (fun x _ => sameF 1000 x (.bool true)) (fun _ _ => false) = true := by kernel_rfl
theorem postureKnown_row (ρ0 : Rho) (n0 : Nat) : KRowOk (LaidI (rowHp .e postureKnownBs) ρ0 n0) Tryz.prog 3 ⟨6, [], [], .bool true⟩ :=
  krow_of_ev (E := postureKnownE) (X := postureKnownY) (m := 1000) (by kernel_rfl) ⟨postureKnownE_ok⟩ (postureKnownY_ok ρ0 n0) (LaidI.ki rowHp_ro) rfl (by kernel_rfl) postureKnown_run
theorem postureKnown_calls {W : World} (hsh : W.ShapedOpen Tryz.prog) (hL : laidMetH Tryz.prog Rows.postureKnownRow.laid W) : Calls Tryz.prog 3 #[] W (fun e w' => e = .returned (.bool true) ∧ RowKit.Below W.heap.size W w') := by
  rw [MakeChecks.laidMetH_plain _ _ _ (by kernel_rfl)] at hL
  refine calls_closed (bs := postureKnownBs) (by kernel_rfl) postureKnown_row ?_ (by kernel_rfl) hsh hL
  intro x hx
  rcases List.mem_cons.1 hx with rfl | hx
  · exact ⟨by decide, "chisel/posture.bad", Rows.laid_chisel_posture_bad, 53, 6, by simp [Rows.postureKnownRow], by kernel_rfl, by kernel_rfl, by kernel_rfl⟩
  rcases List.mem_cons.1 hx with rfl | hx
  · exact ⟨by decide, "chisel/posture.still", Rows.laid_chisel_posture_still, 53, 6, by simp [Rows.postureKnownRow], by kernel_rfl, by kernel_rfl, by kernel_rfl⟩
  rcases List.mem_cons.1 hx with rfl | hx
  · exact ⟨by decide, "chisel/expr.tests", Rows.laid_chisel_expr_tests, 115, 6, by simp [Rows.postureKnownRow], by kernel_rfl, by kernel_rfl, by kernel_rfl⟩
  rcases List.mem_cons.1 hx with rfl | hx
  · exact ⟨by decide, "unicode/utf8.acceptRanges", Rows.laid_unicode_utf8_acceptRanges, 199, 6, by simp [Rows.postureKnownRow], by kernel_rfl, by kernel_rfl, by kernel_rfl⟩
  cases hx
theorem postureKnown_own : ownKnob Tryz.prog.godebug = none := by kernel_rfl
set_option maxRecDepth 100000 in
theorem postureKnown_lifted (os : Os) (started : os.Started) (H : Type) (enc : TypeId × Value → H) :
    ReturnsInHanded {} Tryz.checked os 3 .any (fun w args => (Rows.postureKnownSpec.pre enc Tryz.prog Tryz.f3 [] false w args ∧ laidMetH Tryz.prog Rows.postureKnownRow.laid w) ∧ sizedMet enc Tryz.prog Tryz.f3 (OpenSpec.ofChange Rows.postureKnownSpec) false w args)
      (Rows.postureKnownSpec.post enc Tryz.prog Tryz.f3 false true false false) :=
  closed_lifted (C := Tryz.checked) (t := 4) os started H enc postureKnown_own (by kernel_rfl) (by kernel_rfl) (by kernel_rfl) Tryz.underlying4 rfl (fun _ => rfl)
    (ChangeSpec.witness_shaped (enc := enc) (C := Tryz.checked) (os := os) (X := fun w _ => laidMetH Tryz.prog Rows.postureKnownRow.laid w) false (World.laidAll Tryz.prog os Rows.postureKnownRow.laid) #[] 8 (World.laidAll_os _ _ _)
      (World.shaped_of_ZipB (by kernel_rfl) (by kernel_rfl)) (by kernel_rfl) (by kernel_rfl) (by kernel_rfl)
      (by rw [MakeChecks.laidMetH_plain _ _ _ (by kernel_rfl)]; exact laidMet_laidAll _ (by kernel_rfl) (by kernel_rfl)))
    (fun W hsh hL => postureKnown_calls hsh hL)
theorem postureKnown_holds : Rows.PostureKnownSaid :=
  OpenClaim.holds_of_wide 3 Tryz.f3 rfl rfl rfl rfl rfl rfl rfl ⟨rfl, rfl, rfl, rfl, rfl⟩ rfl rfl rfl rfl rfl (by kernel_rfl) Tryz.func3 (by kernel_rfl)
    (of_decide_eq_true (by kernel_rfl)) (by unfold Func.isWrapper; first | (rw [if_pos (by decide +kernel)]; kernel_rfl) | (rw [if_neg (by decide +kernel)]; exact ⟨rfl, rfl⟩))
    (fun os started H enc _ => postureKnown_lifted os started H enc)
theorem postureKnown_card : Rows.PostureKnownCardSaid :=
  Claim7.holds_tied_plain_at .later [] [.data, .widerDeep, .wider, .data, .pinned] true (true, "a211d03face886714334379bf2f5fc09e3a5b2f806dca603c63321ec1a914eb5") false
    postureKnown_holds (fun _ h => by cases h) (by kernel_rfl) (fun _ h => by cases h) postureKnown_row_tie rfl ⟨rfl, rfl⟩ (by kernel_rfl) rfl
    (fun f fn hf hfn => by
      obtain rfl : f = 3 := Option.some.inj ((show Tryz.prog.funcNamed "chisel/chisellaw36.PostureKnown" = some 3 by kernel_rfl).symm.trans hf) |>.symm
      obtain rfl : fn = Tryz.f3 := (Option.some.inj (Tryz.func3.symm.trans hfn)).symm
      exact ⟨by kernel_rfl, fun j t ht => by
        have hp : Tryz.f3.params = #[] := by kernel_rfl
        rw [hp] at ht
        simp at ht⟩)
    (by kernel_rfl)
#print axioms postureKnown_card
end Go.Proofs.YtofjdobekahmlaaGreatDoor
