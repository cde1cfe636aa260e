/- Part of the proof that the law StreamableKnown answers true: the law itself, and the tied card. No condition. -/
import Derived.Test.YtoffjgbghlcbpaaGreatDoorTie
import Derived.Test.YtoffjgbghlcbpaaGreatDoorCards
import Derived.Test.YtoffjgbghlcbpaaGreatDoorStreamableKnownB
import Derived.Test.YtoffjgbghlcbpaaGreatDoorStreamableKnownR0
import Derived.Test.YtoffjgbghlcbpaaGreatDoorStreamableKnownR1
import Derived.Test.YtoffjgbghlcbpaaGreatDoorStreamableKnownR2
import Derived.Test.YtoffjgbghlcbpaaGreatDoorStreamableKnownR3
import Derived.Test.YtoffjgbghlcbpaaGreatDoorStreamableKnownR4
import Derived.Test.YtoffjgbghlcbpaaGreatDoorStreamableKnownR5
namespace Go.Proofs.YtoffjgbghlcbpaaGreatDoor
open Go Go.Sh Go.ChangeShapes Go.WideShapes Go.ChangeAt Go.RowKit
/-- the externs, and the calls that are known -/
def streamableKnownY (f : Nat) : Option XK := cond (Nat.beq f 8) (some (.known [streamableKnownR0, streamableKnownR1, streamableKnownR2, streamableKnownR3, streamableKnownR4, streamableKnownR5, streamableKnownR6, streamableKnownR7, streamableKnownR8, streamableKnownR9, streamableKnownR10])) (cond (Nat.beq f 12) (some (.known [streamableKnownR11, streamableKnownR12, streamableKnownR13, streamableKnownR14, streamableKnownR15, streamableKnownR16])) (cond (Nat.beq f 15) (some (.known [streamableKnownR17])) (streamableKnownX f)))
theorem streamableKnownY_at {f : Nat} {k : XK} (h : streamableKnownY f = some k) : (f = 8 ∧ k = .known [streamableKnownR0, streamableKnownR1, streamableKnownR2, streamableKnownR3, streamableKnownR4, streamableKnownR5, streamableKnownR6, streamableKnownR7, streamableKnownR8, streamableKnownR9, streamableKnownR10]) ∨ (f = 12 ∧ k = .known [streamableKnownR11, streamableKnownR12, streamableKnownR13, streamableKnownR14, streamableKnownR15, streamableKnownR16]) ∨ (f = 15 ∧ k = .known [streamableKnownR17]) ∨ streamableKnownX f = some k := by
  unfold streamableKnownY at h
  cases hb0 : Nat.beq f 8 with
  | true => rw [hb0, cond_true] at h; cases h; exact .inl ⟨Nat.eq_of_beq_eq_true hb0, rfl⟩
  | false =>
  rw [hb0, cond_false] at h
  cases hb1 : Nat.beq f 12 with
  | true => rw [hb1, cond_true] at h; cases h; exact .inr (.inl ⟨Nat.eq_of_beq_eq_true hb1, rfl⟩)
  | false =>
  rw [hb1, cond_false] at h
  cases hb2 : Nat.beq f 15 with
  | true => rw [hb2, cond_true] at h; cases h; exact .inr (.inr (.inl ⟨Nat.eq_of_beq_eq_true hb2, rfl⟩))
  | false =>
  rw [hb2, cond_false] at h
  exact .inr (.inr (.inr h))
theorem streamableKnownY_ok (ρ0 : Rho) (n0 : Nat) : XOk (LaidI (rowHp .e streamableKnownBs) ρ0 n0) Tryz.prog streamableKnownY where
  ext f k h hk := by
    rcases streamableKnownY_at h with ⟨rfl, rfl⟩ | ⟨rfl, rfl⟩ | ⟨rfl, rfl⟩ | h
    · cases hk
    · cases hk
    · cases hk
    · exact (streamableKnownX_ok _).ext f k h hk
  known f rows h := by
    rcases streamableKnownY_at h with ⟨rfl, h⟩ | ⟨rfl, h⟩ | ⟨rfl, h⟩ | h
    · cases h
      intro r hr
      simp only [List.mem_cons, List.not_mem_nil, or_false] at hr
      rcases hr with rfl | rfl | rfl | rfl | rfl | rfl | rfl | rfl | rfl | rfl | rfl
      · exact streamableKnownR0_ok ρ0 n0
      · exact streamableKnownR1_ok ρ0 n0
      · exact streamableKnownR2_ok ρ0 n0
      · exact streamableKnownR3_ok ρ0 n0
      · exact streamableKnownR4_ok ρ0 n0
      · exact streamableKnownR5_ok ρ0 n0
      · exact streamableKnownR6_ok ρ0 n0
      · exact streamableKnownR7_ok ρ0 n0
      · exact streamableKnownR8_ok ρ0 n0
      · exact streamableKnownR9_ok ρ0 n0
      · exact streamableKnownR10_ok ρ0 n0
    · cases h
      intro r hr
      simp only [List.mem_cons, List.not_mem_nil, or_false] at hr
      rcases hr with rfl | rfl | rfl | rfl | rfl | rfl
      · exact streamableKnownR11_ok ρ0 n0
      · exact streamableKnownR12_ok ρ0 n0
      · exact streamableKnownR13_ok ρ0 n0
      · exact streamableKnownR14_ok ρ0 n0
      · exact streamableKnownR15_ok ρ0 n0
      · exact streamableKnownR16_ok ρ0 n0
    · cases h
      intro r hr
      simp only [List.mem_cons, List.not_mem_nil, or_false] at hr
      subst hr
      · exact streamableKnownR17_ok ρ0 n0
    · exact (streamableKnownX_ok _).known f rows h
theorem streamableKnown_run : (ev streamableKnownE streamableKnownY Tryz.prog 1001).f.f 3 [] ⟨rowHp .e streamableKnownBs, 6, big⟩ (rowEnd ⟨6, [], [], .bool true, none⟩) (fun _ _ => false) = true := by kernel_rfl
theorem streamableKnown_row (ρ0 : Rho) (n0 : Nat) : KRowOk (LaidI (rowHp .e streamableKnownBs) ρ0 n0) Tryz.prog 3 ⟨6, [], [], .bool true, none⟩ :=
  krow_of_ev (E := streamableKnownE) (X := streamableKnownY) (m := 1000) (by kernel_rfl) ⟨streamableKnownE_ok⟩ (streamableKnownY_ok ρ0 n0) (LaidI.ki rowHp_ro) rfl (by kernel_rfl) streamableKnown_run
theorem streamableKnown_calls {W : World} (hsh : W.ShapedOpen Tryz.prog) (hL : laidMetH Tryz.prog Rows.streamableKnownRow.laid W) : Calls Tryz.prog 3 #[] W (fun e w' => e = .returned (.bool true) ∧ RowKit.Below W.heap.size W w') := by
  rw [MakeChecks.laidMetH_plain _ _ _ (by kernel_rfl)] at hL
  refine calls_closed (bs := streamableKnownBs) (by kernel_rfl) streamableKnown_row ?_ (by kernel_rfl) hsh hL
  intro x hx
  rcases List.mem_cons.1 hx with rfl | hx
  · exact ⟨by decide, "chisel/posture.still", Rows.laid_chisel_posture_still, 124, 6, by simp [Rows.streamableKnownRow], by kernel_rfl, by kernel_rfl, by kernel_rfl⟩
  rcases List.mem_cons.1 hx with rfl | hx
  · exact ⟨by decide, "chisel/posture.bad", Rows.laid_chisel_posture_bad, 124, 6, by simp [Rows.streamableKnownRow], by kernel_rfl, by kernel_rfl, by kernel_rfl⟩
  rcases List.mem_cons.1 hx with rfl | hx
  · exact ⟨by decide, "chisel/expr.tests", Rows.laid_chisel_expr_tests, 174, 6, by simp [Rows.streamableKnownRow], by kernel_rfl, by kernel_rfl, by kernel_rfl⟩
  rcases List.mem_cons.1 hx with rfl | hx
  · exact ⟨by decide, "unicode/utf8.acceptRanges", Rows.laid_unicode_utf8_acceptRanges, 260, 6, by simp [Rows.streamableKnownRow], by kernel_rfl, by kernel_rfl, by kernel_rfl⟩
  cases hx
theorem streamableKnown_own : ownKnob Tryz.prog.godebug = none := by kernel_rfl
set_option maxRecDepth 100000 in
theorem streamableKnown_lifted (os : Os) (started : os.Started) (H : Type) (enc : TypeId × Value → H) :
    ReturnsInHanded {} Tryz.checked os 3 .any (fun w args => (Rows.streamableKnownSpec.pre enc Tryz.prog Tryz.f3 [] false w args ∧ laidMetH Tryz.prog Rows.streamableKnownRow.laid w) ∧ sizedMet enc Tryz.prog Tryz.f3 (OpenSpec.ofChange Rows.streamableKnownSpec) false w args)
      (Rows.streamableKnownSpec.post enc Tryz.prog Tryz.f3 false true false false) :=
  closed_lifted (C := Tryz.checked) (t := 4) os started H enc streamableKnown_own (by kernel_rfl) (by kernel_rfl) (by kernel_rfl) Tryz.underlying4 rfl (fun _ => rfl)
    (ChangeSpec.witness_shaped (enc := enc) (C := Tryz.checked) (os := os) (X := fun w _ => laidMetH Tryz.prog Rows.streamableKnownRow.laid w) false (World.laidAll Tryz.prog os Rows.streamableKnownRow.laid) #[] 8 (World.laidAll_os _ _ _)
      (World.shaped_of_ZipB (by kernel_rfl) (by kernel_rfl)) (by kernel_rfl) (by kernel_rfl) (by kernel_rfl)
      (by rw [MakeChecks.laidMetH_plain _ _ _ (by kernel_rfl)]; exact laidMet_laidAll _ (by kernel_rfl) (by kernel_rfl)))
    (fun W hsh hL => streamableKnown_calls hsh hL)
theorem streamableKnown_holds : Rows.StreamableKnownSaid :=
  OpenClaim.holds_of_wide 3 Tryz.f3 rfl rfl rfl rfl rfl rfl rfl ⟨rfl, rfl, rfl, rfl, rfl⟩ rfl rfl rfl rfl rfl (by kernel_rfl) Tryz.func3 (by kernel_rfl)
    (of_decide_eq_true (by kernel_rfl)) (by unfold Func.isWrapper; first | (rw [if_pos (by decide +kernel)]; kernel_rfl) | (rw [if_neg (by decide +kernel)]; exact ⟨rfl, rfl⟩))
    (fun os started H enc _ => streamableKnown_lifted os started H enc)
theorem streamableKnown_card : Rows.StreamableKnownCardSaid :=
  Claim7.holds_tied_plain_at .later [] [.data, .widerDeep, .wider, .data, .pinned] true (true, "cba74d7742b40543cdb71c55ee3419603d07ac33d390e6818fc00aa285b63ec2") true
    streamableKnown_holds (fun _ h => by cases h) (by kernel_rfl) (fun _ h => by cases h) streamableKnown_row_tie rfl ⟨rfl, rfl⟩ (by kernel_rfl) rfl
    (fun f fn hf hfn => by
      obtain rfl : f = 3 := Option.some.inj ((show Tryz.prog.funcNamed "chisel/chisellaw37.StreamableKnown" = some 3 by kernel_rfl).symm.trans hf) |>.symm
      obtain rfl : fn = Tryz.f3 := (Option.some.inj (Tryz.func3.symm.trans hfn)).symm
      exact ⟨by kernel_rfl, fun j t ht => by
        have hp : Tryz.f3.params = #[] := by kernel_rfl
        rw [hp] at ht
        simp at ht⟩)
    (by kernel_rfl)
#print axioms streamableKnown_card
end Go.Proofs.YtoffjgbghlcbpaaGreatDoor
