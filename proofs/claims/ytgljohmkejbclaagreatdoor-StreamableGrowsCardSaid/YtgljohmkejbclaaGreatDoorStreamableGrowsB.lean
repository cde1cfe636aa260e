/- Part of the proof that the law StreamableGrows answers true: what the evaluator is handed. No condition. -/
import Derived.Test.YtgljohmkejbclaaGreatDoorRows
import Derived.Test.YtgljohmkejbclaaGreatDoorShJoin
namespace Go.Proofs.YtgljohmkejbclaaGreatDoor
open Go Go.Sh
/-- the variables that are read: their cells -/
def streamableGrowsBs : List (Nat × Nat × List SV) := [(0, 118, [.int .i64 (4), .int .i64 (2)]), (1, 118, [.int .i64 (0), .int .i64 (0)]), (2, 153, [.str 4 1701080942, .str 4 1954047348, .str 7 32772479205076835, .str 22 41318714828563417414051896845775667275130090755682928, .str 13 8033127625987616181313345908580, .str 7 32772479204551781, .str 9 1871512873130370823265])]
/-- the struct types that are compared -/
def streamableGrowsE (t : Nat) : Bool := (Nat.beq t 30 || (Nat.beq t 32 || (Nat.beq t 34 || Nat.beq t 118)))
/-- the externs that are called -/
def streamableGrowsX (f : Nat) : Option XK := cond (Nat.beq f 130) (some .indexByteStr) (none)
theorem streamableGrowsE_eq (t : Nat) (h : streamableGrowsE t = true) : Tryz.prog.stoodInHeld t = false ∧ Tryz.prog.eqGuardType Tryz.prog.depth t = false := by
  simp only [streamableGrowsE, Bool.or_eq_true] at h
  rcases h with h | h | h | h
  · obtain rfl := Nat.eq_of_beq_eq_true h; exact ⟨by kernel_rfl, by kernel_rfl⟩
  · obtain rfl := Nat.eq_of_beq_eq_true h; exact ⟨by kernel_rfl, by kernel_rfl⟩
  · obtain rfl := Nat.eq_of_beq_eq_true h; exact ⟨by kernel_rfl, by kernel_rfl⟩
  · obtain rfl := Nat.eq_of_beq_eq_true h; exact ⟨by kernel_rfl, by kernel_rfl⟩
theorem streamableGrowsE_ok : EOk Tryz.prog streamableGrowsE := streamableGrowsE_eq
theorem streamableGrowsX_at {f : Nat} {k : XK} (h : streamableGrowsX f = some k) : (f = 130 ∧ k = .indexByteStr) := by
  unfold streamableGrowsX at h
  cases hb0 : Nat.beq f 130 with
  | true => rw [hb0, cond_true] at h; cases h; exact ⟨Nat.eq_of_beq_eq_true hb0, rfl⟩
  | false =>
  rw [hb0, cond_false] at h
  cases h
theorem streamableGrowsX_ok (I : Rho → World → Prop) : XOk I Tryz.prog streamableGrowsX where
  ext f k h _ := by
    obtain ⟨rfl, rfl⟩ := streamableGrowsX_at h
    · exact row_indexByteStr ⟨_, Tryz.func130, by kernel_rfl, by kernel_rfl, by kernel_rfl, by kernel_rfl⟩
  known f rows h := by
    obtain ⟨_, h⟩ := streamableGrowsX_at h
    cases h
end Go.Proofs.YtgljohmkejbclaaGreatDoor
