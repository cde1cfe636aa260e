/- Part of the proof that the law StreamableKnown answers true: what the evaluator is handed. No condition. -/
import Derived.Test.YtoffjgbghlcbpaaGreatDoorRows
import Derived.Test.YtoffjgbghlcbpaaGreatDoorShJoin
namespace Go.Proofs.YtoffjgbghlcbpaaGreatDoor
open Go Go.Sh
/-- the variables that are read: their cells -/
def streamableKnownBs : List (Nat × Nat × List SV) := [(0, 124, [.int .i64 (0), .int .i64 (0)]), (1, 124, [.int .i64 (4), .int .i64 (2)]), (2, 174, [.str 4 1701080942, .str 4 1954047348, .str 7 32772479205076835, .str 22 41318714828563417414051896845775667275130090755682928, .str 13 8033127625987616181313345908580, .str 7 32772479204551781, .str 9 1871512873130370823265]), (5, 260, [.int .u8 (128), .int .u8 (191), .int .u8 (160), .int .u8 (191), .int .u8 (128), .int .u8 (159), .int .u8 (144), .int .u8 (191), .int .u8 (128), .int .u8 (143), .int .u8 (0), .int .u8 (0), .int .u8 (0), .int .u8 (0), .int .u8 (0), .int .u8 (0), .int .u8 (0), .int .u8 (0), .int .u8 (0), .int .u8 (0), .int .u8 (0), .int .u8 (0), .int .u8 (0), .int .u8 (0), .int .u8 (0), .int .u8 (0), .int .u8 (0), .int .u8 (0), .int .u8 (0), .int .u8 (0), .int .u8 (0), .int .u8 (0)])]
/-- the struct types that are compared -/
def streamableKnownE (t : Nat) : Bool := (Nat.beq t 23 || (Nat.beq t 25 || (Nat.beq t 27 || (Nat.beq t 95 || Nat.beq t 124))))
/-- the externs that are called -/
def streamableKnownX (f : Nat) : Option XK := cond (Nat.beq f 220) (some .indexByteStr) (none)
theorem streamableKnownE_ok : EOk Tryz.prog streamableKnownE := fun t h => by
  simp only [streamableKnownE, Bool.or_eq_true] at h
  rcases h with h | h | h | h | h
  · obtain rfl := Nat.eq_of_beq_eq_true h; exact ⟨by kernel_rfl, by kernel_rfl⟩
  · obtain rfl := Nat.eq_of_beq_eq_true h; exact ⟨by kernel_rfl, by kernel_rfl⟩
  · obtain rfl := Nat.eq_of_beq_eq_true h; exact ⟨by kernel_rfl, by kernel_rfl⟩
  · obtain rfl := Nat.eq_of_beq_eq_true h; exact ⟨by kernel_rfl, by kernel_rfl⟩
  · obtain rfl := Nat.eq_of_beq_eq_true h; exact ⟨by kernel_rfl, by kernel_rfl⟩
theorem streamableKnownX_at {f : Nat} {k : XK} (h : streamableKnownX f = some k) : (f = 220 ∧ k = .indexByteStr) := by
  unfold streamableKnownX at h
  cases hb0 : Nat.beq f 220 with
  | true => rw [hb0, cond_true] at h; cases h; exact ⟨Nat.eq_of_beq_eq_true hb0, rfl⟩
  | false =>
  rw [hb0, cond_false] at h
  cases h
theorem streamableKnownX_ok (I : Rho → World → Prop) : XOk I Tryz.prog streamableKnownX where
  ext f k h _ := by
    obtain ⟨rfl, rfl⟩ := streamableKnownX_at h
    · exact row_indexByteStr ⟨_, Tryz.func220, by kernel_rfl, by kernel_rfl, by kernel_rfl, by kernel_rfl⟩
  known f rows h := by
    obtain ⟨_, h⟩ := streamableKnownX_at h
    cases h
end Go.Proofs.YtoffjgbghlcbpaaGreatDoor
