/- Part of the proof that the law PacksSees answers true: what the evaluator is handed. No condition. -/
import Derived.Test.YtnfobeedcgmgoaaGreatRows
import Derived.Test.YtnfobeedcgmgoaaGreatShJoin
namespace Go.Proofs.YtnfobeedcgmgoaaGreat
open Go Go.Sh
/-- the variables that are read: their cells -/
def packsSeesBs : List (Nat × Nat × List SV) := []
/-- the struct types that are compared -/
def packsSeesE (t : Nat) : Bool := Nat.beq t 107
/-- the externs that are called -/
def packsSeesX (f : Nat) : Option XK := cond (Nat.beq f 73) (some .same) (cond (Nat.beq f 74) (some (.makeNoZero 5)) (none))
theorem packsSeesE_ok : EOk Tryz.prog packsSeesE := fun t h => by
  simp only [packsSeesE] at h
  · obtain rfl := Nat.eq_of_beq_eq_true h; exact ⟨by kernel_rfl, by kernel_rfl⟩
theorem packsSeesX_at {f : Nat} {k : XK} (h : packsSeesX f = some k) : (f = 73 ∧ k = .same) ∨ (f = 74 ∧ k = (.makeNoZero 5)) := by
  unfold packsSeesX at h
  cases hb0 : Nat.beq f 73 with
  | true => rw [hb0, cond_true] at h; cases h; exact .inl ⟨Nat.eq_of_beq_eq_true hb0, rfl⟩
  | false =>
  rw [hb0, cond_false] at h
  cases hb1 : Nat.beq f 74 with
  | true => rw [hb1, cond_true] at h; cases h; exact .inr (⟨Nat.eq_of_beq_eq_true hb1, rfl⟩)
  | false =>
  rw [hb1, cond_false] at h
  cases h
theorem packsSeesX_ok (I : Rho → World → Prop) : XOk I Tryz.prog packsSeesX where
  ext f k h _ := by
    rcases packsSeesX_at h with ⟨rfl, rfl⟩ | ⟨rfl, rfl⟩
    · exact row_same ⟨_, Tryz.func73, by kernel_rfl, by kernel_rfl, by kernel_rfl, by kernel_rfl⟩
    · exact row_makeNoZero (ps := Tryz.f74.params) (t := 91) ⟨_, Tryz.func74, by kernel_rfl, by kernel_rfl, by kernel_rfl, by kernel_rfl⟩ (by kernel_rfl)
  known f rows h := by
    rcases packsSeesX_at h with ⟨_, h⟩ | ⟨_, h⟩ <;> cases h
end Go.Proofs.YtnfobeedcgmgoaaGreat
