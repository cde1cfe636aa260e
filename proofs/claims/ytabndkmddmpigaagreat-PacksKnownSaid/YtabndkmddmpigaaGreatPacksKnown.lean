/- Part of the proof that the law PacksKnown answers true: the law itself. No condition. -/
import Derived.Test.YtabndkmddmpigaaGreatPacksKnownB
import Derived.Test.YtabndkmddmpigaaGreatPacksKnownR0
namespace Go.Proofs.YtabndkmddmpigaaGreat
open Go Go.Sh Go.ChangeShapes Go.WideShapes Go.ChangeAt Go.RowKit
/-- the externs, and the calls that are known -/
def packsKnownY (f : Nat) : Option XK := cond (Nat.beq f 7) (some (.known [packsKnownR0, packsKnownR1, packsKnownR2, packsKnownR3, packsKnownR4, packsKnownR5, packsKnownR6, packsKnownR7, packsKnownR8])) (cond (Nat.beq f 10) (some (.known [packsKnownR9])) (packsKnownX f))
theorem packsKnownY_at {f : Nat} {k : XK} (h : packsKnownY f = some k) : (f = 7 ∧ k = .known [packsKnownR0, packsKnownR1, packsKnownR2, packsKnownR3, packsKnownR4, packsKnownR5, packsKnownR6, packsKnownR7, packsKnownR8]) ∨ (f = 10 ∧ k = .known [packsKnownR9]) ∨ packsKnownX f = some k := by
  unfold packsKnownY at h
  cases hb0 : Nat.beq f 7 with
  | true => rw [hb0, cond_true] at h; cases h; exact .inl ⟨Nat.eq_of_beq_eq_true hb0, rfl⟩
  | false =>
  rw [hb0, cond_false] at h
  cases hb1 : Nat.beq f 10 with
  | true => rw [hb1, cond_true] at h; cases h; exact .inr (.inl ⟨Nat.eq_of_beq_eq_true hb1, rfl⟩)
  | false =>
  rw [hb1, cond_false] at h
  exact .inr (.inr h)
theorem packsKnownY_ok (ρ0 : Rho) (n0 : Nat) : XOk (LaidI (rowHp .e packsKnownBs) ρ0 n0) Tryz.prog packsKnownY where
  ext f k h hk := by
    rcases packsKnownY_at h with ⟨rfl, rfl⟩ | ⟨rfl, rfl⟩ | h
    · cases hk
    · cases hk
    · exact (packsKnownX_ok _).ext f k h hk
  known f rows h := by
    rcases packsKnownY_at h with ⟨rfl, h⟩ | ⟨rfl, h⟩ | h
    · cases h
      intro r hr
      simp only [List.mem_cons, List.not_mem_nil, or_false] at hr
      rcases hr with rfl | rfl | rfl | rfl | rfl | rfl | rfl | rfl | rfl
      · exact packsKnownR0_ok ρ0 n0
      · exact packsKnownR1_ok ρ0 n0
      · exact packsKnownR2_ok ρ0 n0
      · exact packsKnownR3_ok ρ0 n0
      · exact packsKnownR4_ok ρ0 n0
      · exact packsKnownR5_ok ρ0 n0
      · exact packsKnownR6_ok ρ0 n0
      · exact packsKnownR7_ok ρ0 n0
      · exact packsKnownR8_ok ρ0 n0
    · cases h
      intro r hr
      simp only [List.mem_cons, List.not_mem_nil, or_false] at hr
      subst hr
      · exact packsKnownR9_ok ρ0 n0
    · exact (packsKnownX_ok _).known f rows h
theorem packsKnown_run : (ev packsKnownE packsKnownY Tryz.prog 1001).f 3 [] ⟨rowHp .e packsKnownBs, 1, big⟩ (fun x _ => sameF 1000 x (.bool true)) (fun _ _ => false) = true := by kernel_rfl
theorem packsKnown_row (ρ0 : Rho) (n0 : Nat) : KRowOk (LaidI (rowHp .e packsKnownBs) ρ0 n0) Tryz.prog 3 ⟨1, [], [], .bool true⟩ :=
  krow_of_ev (E := packsKnownE) (X := packsKnownY) (m := 1000) (by kernel_rfl) ⟨packsKnownE_ok⟩ (packsKnownY_ok ρ0 n0) (LaidI.ki rowHp_ro) rfl (by kernel_rfl) packsKnown_run
theorem packsKnown_calls {W : World} (hsh : W.ShapedOpen Tryz.prog) (hL : laidMetH Tryz.prog Rows.packsKnownRow.laid W) : Calls Tryz.prog 3 #[] W (fun e w' => e = .returned (.bool true) ∧ RowKit.Below W.heap.size W w') := by
  rw [MakeChecks.laidMetH_plain _ _ _ (by kernel_rfl)] at hL
  refine calls_closed (bs := packsKnownBs) (by kernel_rfl) packsKnown_row ?_ (by kernel_rfl) hsh hL
  intro x hx
  cases hx
theorem packsKnown_own : ownKnob Tryz.prog.godebug = none := by kernel_rfl
set_option maxRecDepth 100000 in
theorem packsKnown_lifted (os : Os) (started : os.Started) (H : Type) (enc : TypeId × Value → H) :
    ReturnsInHanded {} Tryz.checked os 3 .any (fun w args => (Rows.packsKnownSpec.pre enc Tryz.prog Tryz.f3 [] false w args ∧ laidMetH Tryz.prog Rows.packsKnownRow.laid w) ∧ sizedMet enc Tryz.prog Tryz.f3 (OpenSpec.ofChange Rows.packsKnownSpec) false w args)
      (Rows.packsKnownSpec.post enc Tryz.prog Tryz.f3 false true false false) :=
  closed_lifted (C := Tryz.checked) (t := 4) os started H enc packsKnown_own (by kernel_rfl) (by kernel_rfl) (by kernel_rfl) Tryz.underlying4 rfl (fun _ => rfl)
    (ChangeSpec.witness_shaped (enc := enc) (C := Tryz.checked) (os := os) (X := fun w _ => laidMetH Tryz.prog Rows.packsKnownRow.laid w) false (World.laidAll Tryz.prog os Rows.packsKnownRow.laid) #[] 8 (World.laidAll_os _ _ _)
      (World.shaped_of_ZipB (by kernel_rfl) (by kernel_rfl)) (by kernel_rfl) (by kernel_rfl) (by kernel_rfl)
      (by rw [MakeChecks.laidMetH_plain _ _ _ (by kernel_rfl)]; exact laidMet_laidAll _ (by kernel_rfl) (by kernel_rfl)))
    (fun W hsh hL => packsKnown_calls hsh hL)
theorem packsKnown_holds : Rows.PacksKnownSaid :=
  OpenClaim.holds_of_wide 3 Tryz.f3 rfl rfl rfl rfl rfl rfl rfl ⟨rfl, rfl, rfl, rfl, rfl⟩ rfl rfl rfl rfl rfl (by kernel_rfl) Tryz.func3 (by kernel_rfl)
    (of_decide_eq_true (by kernel_rfl)) (by unfold Func.isWrapper; first | (rw [if_pos (by decide +kernel)]; kernel_rfl) | (rw [if_neg (by decide +kernel)]; exact ⟨rfl, rfl⟩))
    (fun os started H enc _ => lifted_nil (packsKnown_lifted os started H enc))
#print axioms packsKnown_holds
end Go.Proofs.YtabndkmddmpigaaGreat
