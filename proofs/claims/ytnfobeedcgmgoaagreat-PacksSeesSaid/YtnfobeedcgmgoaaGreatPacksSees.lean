/- Part of the proof that the law PacksSees answers true: the law itself. No condition. -/
import Derived.Test.YtnfobeedcgmgoaaGreatPacksSeesB
import Derived.Test.YtnfobeedcgmgoaaGreatPacksSeesR0
import Derived.Test.YtnfobeedcgmgoaaGreatPacksSeesR1
import Derived.Test.YtnfobeedcgmgoaaGreatPacksSeesR2
import Derived.Test.YtnfobeedcgmgoaaGreatPacksSeesR3
namespace Go.Proofs.YtnfobeedcgmgoaaGreat
open Go Go.Sh Go.ChangeShapes Go.WideShapes Go.ChangeAt Go.RowKit
/-- the externs, and the calls that are known -/
def packsSeesY (f : Nat) : Option XK := cond (Nat.beq f 4) (some (.known [packsSeesR0])) (cond (Nat.beq f 11) (some (.known [packsSeesR1, packsSeesR2, packsSeesR3])) (cond (Nat.beq f 13) (some (.known [packsSeesR4])) (packsSeesX f)))
theorem packsSeesY_at {f : Nat} {k : XK} (h : packsSeesY f = some k) : (f = 4 ∧ k = .known [packsSeesR0]) ∨ (f = 11 ∧ k = .known [packsSeesR1, packsSeesR2, packsSeesR3]) ∨ (f = 13 ∧ k = .known [packsSeesR4]) ∨ packsSeesX f = some k := by
  unfold packsSeesY at h
  cases hb0 : Nat.beq f 4 with
  | true => rw [hb0, cond_true] at h; cases h; exact .inl ⟨Nat.eq_of_beq_eq_true hb0, rfl⟩
  | false =>
  rw [hb0, cond_false] at h
  cases hb1 : Nat.beq f 11 with
  | true => rw [hb1, cond_true] at h; cases h; exact .inr (.inl ⟨Nat.eq_of_beq_eq_true hb1, rfl⟩)
  | false =>
  rw [hb1, cond_false] at h
  cases hb2 : Nat.beq f 13 with
  | true => rw [hb2, cond_true] at h; cases h; exact .inr (.inr (.inl ⟨Nat.eq_of_beq_eq_true hb2, rfl⟩))
  | false =>
  rw [hb2, cond_false] at h
  exact .inr (.inr (.inr h))
theorem packsSeesY_ok (ρ0 : Rho) (n0 : Nat) : XOk (LaidI (rowHp .e packsSeesBs) ρ0 n0) Tryz.prog packsSeesY where
  ext f k h hk := by
    rcases packsSeesY_at h with ⟨rfl, rfl⟩ | ⟨rfl, rfl⟩ | ⟨rfl, rfl⟩ | h
    · cases hk
    · cases hk
    · cases hk
    · exact (packsSeesX_ok _).ext f k h hk
  known f rows h := by
    rcases packsSeesY_at h with ⟨rfl, h⟩ | ⟨rfl, h⟩ | ⟨rfl, h⟩ | h
    · cases h
      intro r hr
      simp only [List.mem_cons, List.not_mem_nil, or_false] at hr
      subst hr
      · exact packsSeesR0_ok ρ0 n0
    · cases h
      intro r hr
      simp only [List.mem_cons, List.not_mem_nil, or_false] at hr
      rcases hr with rfl | rfl | rfl
      · exact packsSeesR1_ok ρ0 n0
      · exact packsSeesR2_ok ρ0 n0
      · exact packsSeesR3_ok ρ0 n0
    · cases h
      intro r hr
      simp only [List.mem_cons, List.not_mem_nil, or_false] at hr
      subst hr
      · exact packsSeesR4_ok ρ0 n0
    · exact (packsSeesX_ok _).known f rows h
theorem packsSees_run : (ev packsSeesE packsSeesY Tryz.prog 1001).f 3 [] ⟨rowHp .e packsSeesBs, 1, big⟩ (rowEnd ⟨1, [], [], .bool true, none⟩) (fun _ _ => false) = true := by kernel_rfl
theorem packsSees_row (ρ0 : Rho) (n0 : Nat) : KRowOk (LaidI (rowHp .e packsSeesBs) ρ0 n0) Tryz.prog 3 ⟨1, [], [], .bool true, none⟩ :=
  krow_of_ev (E := packsSeesE) (X := packsSeesY) (m := 1000) (by kernel_rfl) ⟨packsSeesE_ok⟩ (packsSeesY_ok ρ0 n0) (LaidI.ki rowHp_ro) rfl (by kernel_rfl) packsSees_run
theorem packsSees_calls {W : World} (hsh : W.ShapedOpen Tryz.prog) (hL : laidMetH Tryz.prog Rows.packsSeesRow.laid W) : Calls Tryz.prog 3 #[] W (fun e w' => e = .returned (.bool true) ∧ RowKit.Below W.heap.size W w') := by
  rw [MakeChecks.laidMetH_plain _ _ _ (by kernel_rfl)] at hL
  refine calls_closed (bs := packsSeesBs) (by kernel_rfl) packsSees_row ?_ (by kernel_rfl) hsh hL
  intro x hx
  cases hx
theorem packsSees_own : ownKnob Tryz.prog.godebug = none := by kernel_rfl
set_option maxRecDepth 100000 in
theorem packsSees_lifted (os : Os) (started : os.Started) (H : Type) (enc : TypeId × Value → H) :
    ReturnsInHanded {} Tryz.checked os 3 .any (fun w args => (Rows.packsSeesSpec.pre enc Tryz.prog Tryz.f3 [] false w args ∧ laidMetH Tryz.prog Rows.packsSeesRow.laid w) ∧ sizedMet enc Tryz.prog Tryz.f3 (OpenSpec.ofChange Rows.packsSeesSpec) false w args)
      (Rows.packsSeesSpec.post enc Tryz.prog Tryz.f3 false true false false) :=
  closed_lifted (C := Tryz.checked) (t := 4) os started H enc packsSees_own (by kernel_rfl) (by kernel_rfl) (by kernel_rfl) Tryz.underlying4 rfl (fun _ => rfl)
    (ChangeSpec.witness_shaped (enc := enc) (C := Tryz.checked) (os := os) (X := fun w _ => laidMetH Tryz.prog Rows.packsSeesRow.laid w) false (World.laidAll Tryz.prog os Rows.packsSeesRow.laid) #[] 8 (World.laidAll_os _ _ _)
      (World.shaped_of_ZipB (by kernel_rfl) (by kernel_rfl)) (by kernel_rfl) (by kernel_rfl) (by kernel_rfl)
      (by rw [MakeChecks.laidMetH_plain _ _ _ (by kernel_rfl)]; exact laidMet_laidAll _ (by kernel_rfl) (by kernel_rfl)))
    (fun W hsh hL => packsSees_calls hsh hL)
theorem packsSees_holds : Rows.PacksSeesSaid :=
  OpenClaim.holds_of_wide 3 Tryz.f3 rfl rfl rfl rfl rfl rfl rfl ⟨rfl, rfl, rfl, rfl, rfl⟩ rfl rfl rfl rfl rfl (by kernel_rfl) Tryz.func3 (by kernel_rfl)
    (of_decide_eq_true (by kernel_rfl)) (by unfold Func.isWrapper; first | (rw [if_pos (by decide +kernel)]; kernel_rfl) | (rw [if_neg (by decide +kernel)]; exact ⟨rfl, rfl⟩))
    (fun os started H enc _ => lifted_nil (packsSees_lifted os started H enc))
#print axioms packsSees_holds
end Go.Proofs.YtnfobeedcgmgoaaGreat
