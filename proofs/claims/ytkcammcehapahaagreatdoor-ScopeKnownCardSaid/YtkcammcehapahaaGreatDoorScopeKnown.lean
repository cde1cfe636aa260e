/- The law ScopeKnown of chapter 20 answers true, and turns nothing: its tied card. No condition beyond the row's own. -/
import Derived.Test.YtkcammcehapahaaGreatDoorTie
import Derived.Test.YtkcammcehapahaaGreatDoorCards
import Derived.Test.YtkcammcehapahaaGreatDoorShJoin
namespace Go.Proofs.YtkcammcehapahaaGreatDoor
open Go Go.Sh Go.ChangeShapes Go.WideShapes Go.ChangeAt Go.RowKit

/-- the one variable that is read: its cells -/
def skBs : List (Nat × Nat × List SV) := [(0, 105, [.str 4 1701080942, .str 4 1954047348, .str 7 32772479205076835, .str 22 41318714828563417414051896845775667275130090755682928, .str 13 8033127625987616181313345908580, .str 7 32772479204551781, .str 9 1871512873130370823265])]
/-- the struct types that are compared -/
def skE (t : Nat) : Bool := Nat.beq t 23 || (Nat.beq t 25 || (Nat.beq t 27 || Nat.beq t 34))
/-- the extern that is called -/
def skX (f : Nat) : Option XK := cond (Nat.beq f 166) (some .indexByteStr) none

theorem sk_run : (ev skE skX Tryz.prog 1001).f 3 [] ⟨rowHp .e skBs, 2, big⟩ (fun x _ => sameF 1000 x (.bool true)) (fun _ _ => false) = true := by kernel_rfl

theorem skE_ok : EOk Tryz.prog skE := fun t h => by
  have h' : t = 23 ∨ t = 25 ∨ t = 27 ∨ t = 34 := by
    simp only [skE, Bool.or_eq_true] at h
    rcases h with h | h | h | h
    · exact .inl (Nat.eq_of_beq_eq_true h)
    · exact .inr (.inl (Nat.eq_of_beq_eq_true h))
    · exact .inr (.inr (.inl (Nat.eq_of_beq_eq_true h)))
    · exact .inr (.inr (.inr (Nat.eq_of_beq_eq_true h)))
  rcases h' with rfl | rfl | rfl | rfl
  · exact ⟨by kernel_rfl, by kernel_rfl⟩
  · exact ⟨by kernel_rfl, by kernel_rfl⟩
  · exact ⟨by kernel_rfl, by kernel_rfl⟩
  · exact ⟨by kernel_rfl, by kernel_rfl⟩
theorem skX_at {f : Nat} {k : XK} (h : skX f = some k) : f = 166 ∧ k = .indexByteStr := by
  unfold skX at h
  cases hb : Nat.beq f 166 with
  | false => rw [hb] at h; cases h
  | true => rw [hb, cond_true] at h; cases h; exact ⟨Nat.eq_of_beq_eq_true hb, rfl⟩
theorem skX_ok (I : Rho → World → Prop) : XOk I Tryz.prog skX where
  ext f k h _ := by
    obtain ⟨rfl, rfl⟩ := skX_at h
    exact row_indexByteStr ⟨_, Tryz.func166, by kernel_rfl, by kernel_rfl, by kernel_rfl, by kernel_rfl⟩
  known f rows h := by
    obtain ⟨_, h⟩ := skX_at h
    cases h
theorem sk_row (ρ0 : Rho) (n0 : Nat) : KRowOk (LaidI (rowHp .e skBs) ρ0 n0) Tryz.prog 3 ⟨2, [], [], .bool true⟩ :=
  krow_of_ev (E := skE) (X := skX) (m := 1000) (by kernel_rfl) ⟨skE_ok⟩ (skX_ok _) (LaidI.ki rowHp_ro) rfl (by kernel_rfl) sk_run
theorem sk_calls {W : World} (hsh : W.ShapedOpen Tryz.prog) (hL : laidMetH Tryz.prog Rows.scopeKnownRow.laid W) : Calls Tryz.prog 3 #[] W (fun e w' => e = .returned (.bool true) ∧ RowKit.Below W.heap.size W w') := by
  rw [MakeChecks.laidMetH_plain _ _ _ (by kernel_rfl)] at hL
  refine calls_closed (bs := skBs) (by kernel_rfl) sk_row ?_ (by kernel_rfl) hsh hL
  intro x hx
  rcases List.mem_cons.1 hx with rfl | hx
  · exact ⟨by decide, "chisel/expr.tests", Rows.laid_chisel_expr_tests, 105, 3, List.mem_cons_self, by kernel_rfl, by kernel_rfl, by kernel_rfl⟩
  · cases hx

theorem sk_own : ownKnob Tryz.prog.godebug = none := by kernel_rfl
set_option maxRecDepth 100000 in
theorem sk_lifted (os : Os) (started : os.Started) (H : Type) (enc : TypeId × Value → H) :
    ReturnsInHanded {} Tryz.checked os 3 .any (fun w args => (Rows.scopeKnownSpec.pre enc Tryz.prog Tryz.f3 [] false w args ∧ laidMetH Tryz.prog Rows.scopeKnownRow.laid w) ∧ sizedMet enc Tryz.prog Tryz.f3 (OpenSpec.ofChange Rows.scopeKnownSpec) false w args)
      (Rows.scopeKnownSpec.post enc Tryz.prog Tryz.f3 false true false false) :=
  closed_lifted (C := Tryz.checked) (t := 4) os started H enc sk_own (by kernel_rfl) (by kernel_rfl) (by kernel_rfl) Tryz.underlying4 rfl (fun _ => rfl)
    (ChangeSpec.witness_shaped (enc := enc) (C := Tryz.checked) (os := os) (X := fun w _ => laidMetH Tryz.prog Rows.scopeKnownRow.laid w) false (World.laidAll Tryz.prog os Rows.scopeKnownRow.laid) #[] 8 (World.laidAll_os _ _ _)
      (World.shaped_of_ZipB (by kernel_rfl) (by kernel_rfl)) (by kernel_rfl) (by kernel_rfl) (by kernel_rfl)
      (by rw [MakeChecks.laidMetH_plain _ _ _ (by kernel_rfl)]; exact laidMet_laidAll _ (by kernel_rfl) (by kernel_rfl)))
    (fun W hsh hL => sk_calls hsh hL)
theorem sk_holds : Rows.ScopeKnownSaid :=
  OpenClaim.holds_of_wide 3 Tryz.f3 rfl rfl rfl rfl rfl rfl rfl ⟨rfl, rfl, rfl, rfl, rfl⟩ rfl rfl rfl rfl rfl (by kernel_rfl) Tryz.func3 (by kernel_rfl)
    (of_decide_eq_true (by kernel_rfl)) (by unfold Func.isWrapper; first | (rw [if_pos (by decide +kernel)]; kernel_rfl) | (rw [if_neg (by decide +kernel)]; exact ⟨rfl, rfl⟩))
    (fun os started H enc _ => sk_lifted os started H enc)
theorem scopeKnown_card : Rows.ScopeKnownCardSaid :=
  Claim7.holds_tied_plain_at .later [] [.widerDeep] true (true, "ed2b3eb025d59dd039d6f52fed9f676479d7a8203ece86ef679c73d1c3832f05") false
    sk_holds (fun _ h => by cases h) (by kernel_rfl) (fun _ h => by cases h) scopeKnown_row_tie rfl ⟨rfl, rfl⟩ (by kernel_rfl) rfl
    (fun f fn hf hfn => by
      obtain rfl : f = 3 := Option.some.inj ((show Tryz.prog.funcNamed "chisel/chisellaw20.ScopeKnown" = some 3 by kernel_rfl).symm.trans hf) |>.symm
      obtain rfl : fn = Tryz.f3 := (Option.some.inj (Tryz.func3.symm.trans hfn)).symm
      exact ⟨by kernel_rfl, fun j t ht => by
        have hp : Tryz.f3.params = #[] := by kernel_rfl
        rw [hp] at ht
        simp at ht⟩)
    (by kernel_rfl)
#print axioms scopeKnown_card
end Go.Proofs.YtkcammcehapahaaGreatDoor
