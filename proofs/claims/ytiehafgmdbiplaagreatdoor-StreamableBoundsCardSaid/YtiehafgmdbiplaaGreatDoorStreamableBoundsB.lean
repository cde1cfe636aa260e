/- Part of the proof that the law StreamableBounds answers true: what the evaluator is handed. No condition. -/
import Derived.Test.YtiehafgmdbiplaaGreatDoorRows
import Derived.Test.YtiehafgmdbiplaaGreatDoorShJoin
namespace Go.Proofs.YtiehafgmdbiplaaGreatDoor
open Go Go.Sh
/-- nothing is unknown here -/
instance noOpq : Opq := opqNone
/-- the variables that are read: their cells -/
def streamableBoundsBs : List (Nat × Nat × List SV) := [(0, 123, [.int .i64 (4), .int .i64 (2)]), (1, 123, [.int .i64 (0), .int .i64 (0)]), (2, 158, [.str 4 1701080942, .str 4 1954047348, .str 7 32772479205076835, .str 22 41318714828563417414051896845775667275130090755682928, .str 13 8033127625987616181313345908580, .str 7 32772479204551781, .str 9 1871512873130370823265])]
/-- the struct types that are compared -/
def streamableBoundsE0 (t : Nat) : Bool := (Nat.beq t 31 || (Nat.beq t 33 || (Nat.beq t 35 || Nat.beq t 123)))
def streamableBoundsE : EE := ⟨streamableBoundsE0, fun _ _ _ => .bad⟩
/-- the externs that are called -/
def streamableBoundsX (f : Nat) : Option XK := cond (Nat.beq f 133) (some .indexByteStr) (none)
theorem streamableBoundsE_eq (t : Nat) (h : streamableBoundsE0 t = true) : Tryz.prog.stoodInHeld t = false ∧ Tryz.prog.eqGuardType Tryz.prog.depth t = false := by
  simp only [streamableBoundsE0, Bool.or_eq_true] at h
  rcases h with h | h | h | h
  · obtain rfl := Nat.eq_of_beq_eq_true h; exact ⟨by kernel_rfl, by kernel_rfl⟩
  · obtain rfl := Nat.eq_of_beq_eq_true h; exact ⟨by kernel_rfl, by kernel_rfl⟩
  · obtain rfl := Nat.eq_of_beq_eq_true h; exact ⟨by kernel_rfl, by kernel_rfl⟩
  · obtain rfl := Nat.eq_of_beq_eq_true h; exact ⟨by kernel_rfl, by kernel_rfl⟩
theorem streamableBoundsE_ok : EOk Tryz.prog streamableBoundsE := ⟨streamableBoundsE_eq, fun _ _ _ _ _ _ _ _ h => absurd rfl h⟩
theorem streamableBoundsX_at {f : Nat} {k : XK} (h : streamableBoundsX f = some k) : (f = 133 ∧ k = .indexByteStr) := by
  unfold streamableBoundsX at h
  cases hb0 : Nat.beq f 133 with
  | true => rw [hb0, cond_true] at h; cases h; exact ⟨Nat.eq_of_beq_eq_true hb0, rfl⟩
  | false =>
  rw [hb0, cond_false] at h
  cases h
theorem streamableBoundsX_ok (I : Rho → World → Prop) : XOk I Tryz.prog streamableBoundsX where
  ext f k h _ := by
    obtain ⟨rfl, rfl⟩ := streamableBoundsX_at h
    · exact row_indexByteStr ⟨_, Tryz.func133, by kernel_rfl, by kernel_rfl, by kernel_rfl, by kernel_rfl⟩
  known f rows h := by
    obtain ⟨_, h⟩ := streamableBoundsX_at h
    cases h
end Go.Proofs.YtiehafgmdbiplaaGreatDoor
