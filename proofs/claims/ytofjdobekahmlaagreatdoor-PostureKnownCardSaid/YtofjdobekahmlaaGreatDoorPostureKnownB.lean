/- Part of the proof that the law PostureKnown answers true: what the evaluator is handed. No condition. -/
import Derived.Test.YtofjdobekahmlaaGreatDoorRows
import Derived.Test.YtofjdobekahmlaaGreatDoorShJoin
namespace Go.Proofs.YtofjdobekahmlaaGreatDoor
open Go Go.Sh
/-- the variables that are read: their cells -/
def postureKnownBs : List (Nat × Nat × List SV) := [(0, 53, [.int .i64 (4), .int .i64 (2)]), (1, 53, [.int .i64 (0), .int .i64 (0)]), (2, 115, [.str 4 1701080942, .str 4 1954047348, .str 7 32772479205076835, .str 22 41318714828563417414051896845775667275130090755682928, .str 13 8033127625987616181313345908580, .str 7 32772479204551781, .str 9 1871512873130370823265]), (5, 199, [.int .u8 (128), .int .u8 (191), .int .u8 (160), .int .u8 (191), .int .u8 (128), .int .u8 (159), .int .u8 (144), .int .u8 (191), .int .u8 (128), .int .u8 (143), .int .u8 (0), .int .u8 (0), .int .u8 (0), .int .u8 (0), .int .u8 (0), .int .u8 (0), .int .u8 (0), .int .u8 (0), .int .u8 (0), .int .u8 (0), .int .u8 (0), .int .u8 (0), .int .u8 (0), .int .u8 (0), .int .u8 (0), .int .u8 (0), .int .u8 (0), .int .u8 (0), .int .u8 (0), .int .u8 (0), .int .u8 (0), .int .u8 (0)])]
/-- the struct types that are compared -/
def postureKnownE (t : Nat) : Bool := (Nat.beq t 23 || (Nat.beq t 25 || (Nat.beq t 27 || Nat.beq t 53)))
/-- the externs that are called -/
def postureKnownX (f : Nat) : Option XK := cond (Nat.beq f 210) (some .indexByteStr) (none)
theorem postureKnownE_ok : EOk Tryz.prog postureKnownE := fun t h => by
  simp only [postureKnownE, Bool.or_eq_true] at h
  rcases h with h | h | h | h
  · obtain rfl := Nat.eq_of_beq_eq_true h; exact ⟨by kernel_rfl, by kernel_rfl⟩
  · obtain rfl := Nat.eq_of_beq_eq_true h; exact ⟨by kernel_rfl, by kernel_rfl⟩
  · obtain rfl := Nat.eq_of_beq_eq_true h; exact ⟨by kernel_rfl, by kernel_rfl⟩
  · obtain rfl := Nat.eq_of_beq_eq_true h; exact ⟨by kernel_rfl, by kernel_rfl⟩
theorem postureKnownX_at {f : Nat} {k : XK} (h : postureKnownX f = some k) : (f = 210 ∧ k = .indexByteStr) := by
  unfold postureKnownX at h
  cases hb0 : Nat.beq f 210 with
  | true => rw [hb0, cond_true] at h; cases h; exact ⟨Nat.eq_of_beq_eq_true hb0, rfl⟩
  | false =>
  rw [hb0, cond_false] at h
  cases h
theorem postureKnownX_ok (I : Rho → World → Prop) : XOk I Tryz.prog postureKnownX where
  ext f k h _ := by
    obtain ⟨rfl, rfl⟩ := postureKnownX_at h
    · exact row_indexByteStr ⟨_, Tryz.func210, by kernel_rfl, by kernel_rfl, by kernel_rfl, by kernel_rfl⟩
  known f rows h := by
    obtain ⟨_, h⟩ := postureKnownX_at h
    cases h
end Go.Proofs.YtofjdobekahmlaaGreatDoor
