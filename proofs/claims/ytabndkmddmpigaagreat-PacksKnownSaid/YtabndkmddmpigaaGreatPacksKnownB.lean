/- Part of the proof that the law PacksKnown answers true: what the evaluator is handed. No condition. -/
import Derived.Test.YtabndkmddmpigaaGreatRows
import Derived.Test.YtabndkmddmpigaaGreatShJoin
namespace Go.Proofs.YtabndkmddmpigaaGreat
open Go Go.Sh
/-- the variables that are read: their cells -/
def packsKnownBs : List (Nat × Nat × List SV) := []
/-- the struct types that are compared -/
def packsKnownE (t : Nat) : Bool := Nat.beq t 96
/-- the externs that are called -/
def packsKnownX (f : Nat) : Option XK := cond (Nat.beq f 116) (some .same) (cond (Nat.beq f 117) (some (.makeNoZero 5)) (none))
theorem packsKnownE_ok : EOk Tryz.prog packsKnownE := fun t h => by
  simp only [packsKnownE] at h
  · obtain rfl := Nat.eq_of_beq_eq_true h; exact ⟨by kernel_rfl, by kernel_rfl⟩
theorem packsKnownX_at {f : Nat} {k : XK} (h : packsKnownX f = some k) : (f = 116 ∧ k = .same) ∨ (f = 117 ∧ k = (.makeNoZero 5)) := by
  unfold packsKnownX at h
  cases hb0 : Nat.beq f 116 with
  | true => rw [hb0, cond_true] at h; cases h; exact .inl ⟨Nat.eq_of_beq_eq_true hb0, rfl⟩
  | false =>
  rw [hb0, cond_false] at h
  cases hb1 : Nat.beq f 117 with
  | true => rw [hb1, cond_true] at h; cases h; exact .inr (⟨Nat.eq_of_beq_eq_true hb1, rfl⟩)
  | false =>
  rw [hb1, cond_false] at h
  cases h
theorem packsKnownX_ok (I : Rho → World → Prop) : XOk I Tryz.prog packsKnownX where
  ext f k h _ := by
    rcases packsKnownX_at h with ⟨rfl, rfl⟩ | ⟨rfl, rfl⟩
    · exact row_same ⟨_, Tryz.func116, by kernel_rfl, by kernel_rfl, by kernel_rfl, by kernel_rfl⟩
    · exact row_makeNoZero (ps := Tryz.f117.params) (t := 157) ⟨_, Tryz.func117, by kernel_rfl, by kernel_rfl, by kernel_rfl, by kernel_rfl⟩ (by kernel_rfl)
  known f rows h := by
    rcases packsKnownX_at h with ⟨_, h⟩ | ⟨_, h⟩ <;> cases h
end Go.Proofs.YtabndkmddmpigaaGreat
