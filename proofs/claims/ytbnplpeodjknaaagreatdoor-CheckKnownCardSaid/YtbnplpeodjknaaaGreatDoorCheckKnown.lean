/- Part of the proof that the law CheckKnown answers true: the law itself, and the tied card. No condition. -/
import Derived.Test.YtbnplpeodjknaaaGreatDoorTie
import Derived.Test.YtbnplpeodjknaaaGreatDoorCards
import Derived.Test.YtbnplpeodjknaaaGreatDoorCheckKnownB
import Derived.Test.YtbnplpeodjknaaaGreatDoorCheckKnownR0
import Derived.Test.YtbnplpeodjknaaaGreatDoorCheckKnownR1
import Derived.Test.YtbnplpeodjknaaaGreatDoorCheckKnownR2
import Derived.Test.YtbnplpeodjknaaaGreatDoorCheckKnownR3
namespace Go.Proofs.YtbnplpeodjknaaaGreatDoor
open Go Go.Sh Go.ChangeShapes Go.WideShapes Go.ChangeAt Go.RowKit
/-- the externs, and the calls that are known -/
def checkKnownY (f : Nat) : Option XK := cond (Nat.beq f 11) (some (.known [checkKnownR0, checkKnownR1, checkKnownR2, checkKnownR3, checkKnownR4, checkKnownR5, checkKnownR6, checkKnownR7, checkKnownR8, checkKnownR9, checkKnownR10, checkKnownR11, checkKnownR12, checkKnownR13, checkKnownR14, checkKnownR15, checkKnownR16])) (cond (Nat.beq f 12) (some (.known [checkKnownR17])) (checkKnownX f))
theorem checkKnownY_at {f : Nat} {k : XK} (h : checkKnownY f = some k) : (f = 11 ∧ k = .known [checkKnownR0, checkKnownR1, checkKnownR2, checkKnownR3, checkKnownR4, checkKnownR5, checkKnownR6, checkKnownR7, checkKnownR8, checkKnownR9, checkKnownR10, checkKnownR11, checkKnownR12, checkKnownR13, checkKnownR14, checkKnownR15, checkKnownR16]) ∨ (f = 12 ∧ k = .known [checkKnownR17]) ∨ checkKnownX f = some k := by
  unfold checkKnownY at h
  cases hb0 : Nat.beq f 11 with
  | true => rw [hb0, cond_true] at h; cases h; exact .inl ⟨Nat.eq_of_beq_eq_true hb0, rfl⟩
  | false =>
  rw [hb0, cond_false] at h
  cases hb1 : Nat.beq f 12 with
  | true => rw [hb1, cond_true] at h; cases h; exact .inr (.inl ⟨Nat.eq_of_beq_eq_true hb1, rfl⟩)
  | false =>
  rw [hb1, cond_false] at h
  exact .inr (.inr h)
theorem checkKnownY_ok (ρ0 : Rho) (n0 : Nat) : XOk (LaidI (rowHp .e checkKnownBs) ρ0 n0) Tryz.prog checkKnownY where
  ext f k h hk := by
    rcases checkKnownY_at h with ⟨rfl, rfl⟩ | ⟨rfl, rfl⟩ | h
    · cases hk
    · cases hk
    · exact (checkKnownX_ok _).ext f k h hk
  known f rows h := by
    rcases checkKnownY_at h with ⟨rfl, h⟩ | ⟨rfl, h⟩ | h
    · cases h
      intro r hr
      simp only [List.mem_cons, List.not_mem_nil, or_false] at hr
      rcases hr with rfl | rfl | rfl | rfl | rfl | rfl | rfl | rfl | rfl | rfl | rfl | rfl | rfl | rfl | rfl | rfl | rfl
      · exact checkKnownR0_ok ρ0 n0
      · exact checkKnownR1_ok ρ0 n0
      · exact checkKnownR2_ok ρ0 n0
      · exact checkKnownR3_ok ρ0 n0
      · exact checkKnownR4_ok ρ0 n0
      · exact checkKnownR5_ok ρ0 n0
      · exact checkKnownR6_ok ρ0 n0
      · exact checkKnownR7_ok ρ0 n0
      · exact checkKnownR8_ok ρ0 n0
      · exact checkKnownR9_ok ρ0 n0
      · exact checkKnownR10_ok ρ0 n0
      · exact checkKnownR11_ok ρ0 n0
      · exact checkKnownR12_ok ρ0 n0
      · exact checkKnownR13_ok ρ0 n0
      · exact checkKnownR14_ok ρ0 n0
      · exact checkKnownR15_ok ρ0 n0
      · exact checkKnownR16_ok ρ0 n0
    · cases h
      intro r hr
      simp only [List.mem_cons, List.not_mem_nil, or_false] at hr
      subst hr
      · exact checkKnownR17_ok ρ0 n0
    · exact (checkKnownX_ok _).known f rows h
theorem checkKnown_run : (ev checkKnownE checkKnownY Tryz.prog 1001).f.f 3 [] ⟨rowHp .e checkKnownBs, 4, big⟩ (rowEnd ⟨4, [], [], .bool true, none⟩) (fun _ _ => false) = true := by kernel_rfl
theorem checkKnown_row (ρ0 : Rho) (n0 : Nat) (_h0 : ∀ b, 4 ≤ b → ρ0 b = none) : KRowOk (LaidI (rowHp .e checkKnownBs) ρ0 n0) Tryz.prog 3 ⟨4, [], [], .bool true, none⟩ :=
  krow_of_ev (E := checkKnownE) (X := checkKnownY) (m := 1000) (by kernel_rfl) ⟨checkKnownE_ok⟩ (checkKnownY_ok ρ0 n0) (LaidI.ki rowHp_ro) rfl rfl (by kernel_rfl) checkKnown_run
theorem checkKnown_calls {W : World} (hsh : W.ShapedOpen Tryz.prog) (hL : laidMetH Tryz.prog Rows.checkKnownRow.laid W) : Calls Tryz.prog 3 #[] W (fun e w' => e = .returned (.bool true) ∧ RowKit.Below W.heap.size W w') := by
  rw [MakeChecks.laidMetH_plain _ _ _ (by kernel_rfl)] at hL
  refine calls_closed (bs := checkKnownBs) (by kernel_rfl) checkKnown_row ?_ (by kernel_rfl) hsh hL
  intro x hx
  rcases List.mem_cons.1 hx with rfl | hx
  · exact ⟨by decide, "chisel/expr.tests", Rows.laid_chisel_expr_tests, 238, 6, by simp [Rows.checkKnownRow], by kernel_rfl, by kernel_rfl, by kernel_rfl⟩
  rcases List.mem_cons.1 hx with rfl | hx
  · exact ⟨by decide, "unicode/utf8.acceptRanges", Rows.laid_unicode_utf8_acceptRanges, 293, 6, by simp [Rows.checkKnownRow], by kernel_rfl, by kernel_rfl, by kernel_rfl⟩
  cases hx
theorem checkKnown_own : ownKnob Tryz.prog.godebug = none := by kernel_rfl
set_option maxRecDepth 100000 in
theorem checkKnown_lifted (os : Os) (started : os.Started) (H : Type) (enc : TypeId × Value → H) :
    ReturnsInHanded {} Tryz.checked os 3 .any (fun w args => (Rows.checkKnownSpec.pre enc Tryz.prog Tryz.f3 [] false w args ∧ laidMetH Tryz.prog Rows.checkKnownRow.laid w) ∧ sizedMet enc Tryz.prog Tryz.f3 (OpenSpec.ofChange Rows.checkKnownSpec) false w args)
      (Rows.checkKnownSpec.post enc Tryz.prog Tryz.f3 false true false false) :=
  closed_lifted (C := Tryz.checked) (t := 4) os started H enc checkKnown_own (by kernel_rfl) (by kernel_rfl) (by kernel_rfl) Tryz.underlying4 rfl (fun _ => rfl)
    (ChangeSpec.witness_shaped (enc := enc) (C := Tryz.checked) (os := os) (X := fun w _ => laidMetH Tryz.prog Rows.checkKnownRow.laid w) false (World.laidAll Tryz.prog os Rows.checkKnownRow.laid) #[] 8 (World.laidAll_os _ _ _)
      (World.shaped_of_ZipB (by kernel_rfl) (by kernel_rfl)) (by kernel_rfl) (by kernel_rfl) (by kernel_rfl)
      (by rw [MakeChecks.laidMetH_plain _ _ _ (by kernel_rfl)]; exact laidMet_laidAll _ (by kernel_rfl) (by kernel_rfl)))
    (fun W hsh hL => checkKnown_calls hsh hL)
theorem checkKnown_holds : Rows.CheckKnownSaid :=
  OpenClaim.holds_of_wide 3 Tryz.f3 rfl rfl rfl rfl rfl rfl rfl ⟨rfl, rfl, rfl, rfl, rfl⟩ rfl rfl rfl rfl rfl (by kernel_rfl) Tryz.func3 (by kernel_rfl)
    (of_decide_eq_true (by kernel_rfl)) (by unfold Func.isWrapper; first | (rw [if_pos (by decide +kernel)]; kernel_rfl) | (rw [if_neg (by decide +kernel)]; exact ⟨rfl, rfl⟩))
    (fun os started H enc _ => checkKnown_lifted os started H enc)
theorem checkKnown_card : Rows.CheckKnownCardSaid :=
  Claim7.holds_tied_plain_at .later [] [.data, .widerDeep, .pinned] true (true, "10befb2f9e413d2e40c8fb1972570ea26aa0192f9aff81f198be0f371b31cce7") true
    checkKnown_holds (fun _ h => by cases h) (by kernel_rfl) (fun _ h => by cases h) checkKnown_row_tie rfl ⟨rfl, rfl⟩ (by kernel_rfl) rfl
    (fun f fn hf hfn => by
      obtain rfl : f = 3 := Option.some.inj ((show Tryz.prog.funcNamed "chisel/chisellaw25.CheckKnown" = some 3 by kernel_rfl).symm.trans hf) |>.symm
      obtain rfl : fn = Tryz.f3 := (Option.some.inj (Tryz.func3.symm.trans hfn)).symm
      exact ⟨by kernel_rfl, fun j t ht => by
        have hp : Tryz.f3.params = #[] := by kernel_rfl
        rw [hp] at ht
        simp at ht⟩)
    (by kernel_rfl)
#print axioms checkKnown_card
end Go.Proofs.YtbnplpeodjknaaaGreatDoor
