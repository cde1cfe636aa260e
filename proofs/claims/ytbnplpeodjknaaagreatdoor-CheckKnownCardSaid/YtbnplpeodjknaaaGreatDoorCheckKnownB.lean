/- Part of the proof that the law CheckKnown answers true: what the evaluator is handed. No condition. -/
import Derived.Test.YtbnplpeodjknaaaGreatDoorRows
import Derived.Test.YtbnplpeodjknaaaGreatDoorShJoin
namespace Go.Proofs.YtbnplpeodjknaaaGreatDoor
open Go Go.Sh
/-- nothing is unknown here -/
instance noOpq : Opq := opqNone
/-- the variables that are read: their cells -/
def checkKnownBs : List (Nat × Nat × List SV) := [(0, 238, [.str 4 1701080942, .str 4 1954047348, .str 7 32772479205076835, .str 22 41318714828563417414051896845775667275130090755682928, .str 13 8033127625987616181313345908580, .str 7 32772479204551781, .str 9 1871512873130370823265]), (3, 293, [.int .u8 (128), .int .u8 (191), .int .u8 (160), .int .u8 (191), .int .u8 (128), .int .u8 (159), .int .u8 (144), .int .u8 (191), .int .u8 (128), .int .u8 (143), .int .u8 (0), .int .u8 (0), .int .u8 (0), .int .u8 (0), .int .u8 (0), .int .u8 (0), .int .u8 (0), .int .u8 (0), .int .u8 (0), .int .u8 (0), .int .u8 (0), .int .u8 (0), .int .u8 (0), .int .u8 (0), .int .u8 (0), .int .u8 (0), .int .u8 (0), .int .u8 (0), .int .u8 (0), .int .u8 (0), .int .u8 (0), .int .u8 (0)])]
/-- the struct types that are compared -/
def checkKnownE0 (t : Nat) : Bool := (Nat.beq t 23 || (Nat.beq t 25 || (Nat.beq t 27 || (Nat.beq t 122 || Nat.beq t 136))))
def checkKnownE : EE := ⟨checkKnownE0, fun _ _ _ => .bad⟩
/-- the externs that are called -/
def checkKnownX (f : Nat) : Option XK := cond (Nat.beq f 258) (some .indexByteStr) (none)
theorem checkKnownE_eq (t : Nat) (h : checkKnownE0 t = true) : Tryz.prog.stoodInHeld t = false ∧ Tryz.prog.eqGuardType Tryz.prog.depth t = false := by
  simp only [checkKnownE0, Bool.or_eq_true] at h
  rcases h with h | h | h | h | h
  · obtain rfl := Nat.eq_of_beq_eq_true h; exact ⟨by kernel_rfl, by kernel_rfl⟩
  · obtain rfl := Nat.eq_of_beq_eq_true h; exact ⟨by kernel_rfl, by kernel_rfl⟩
  · obtain rfl := Nat.eq_of_beq_eq_true h; exact ⟨by kernel_rfl, by kernel_rfl⟩
  · obtain rfl := Nat.eq_of_beq_eq_true h; exact ⟨by kernel_rfl, by kernel_rfl⟩
  · obtain rfl := Nat.eq_of_beq_eq_true h; exact ⟨by kernel_rfl, by kernel_rfl⟩
theorem checkKnownE_ok : EOk Tryz.prog checkKnownE := ⟨checkKnownE_eq, fun _ _ _ _ _ _ _ _ h => absurd rfl h⟩
theorem checkKnownX_at {f : Nat} {k : XK} (h : checkKnownX f = some k) : (f = 258 ∧ k = .indexByteStr) := by
  unfold checkKnownX at h
  cases hb0 : Nat.beq f 258 with
  | true => rw [hb0, cond_true] at h; cases h; exact ⟨Nat.eq_of_beq_eq_true hb0, rfl⟩
  | false =>
  rw [hb0, cond_false] at h
  cases h
theorem checkKnownX_ok (I : Rho → World → Prop) : XOk I Tryz.prog checkKnownX where
  ext f k h _ := by
    obtain ⟨rfl, rfl⟩ := checkKnownX_at h
    · exact row_indexByteStr ⟨_, Tryz.func258, by kernel_rfl, by kernel_rfl, by kernel_rfl, by kernel_rfl⟩
  known f rows h := by
    obtain ⟨_, h⟩ := checkKnownX_at h
    cases h
end Go.Proofs.YtbnplpeodjknaaaGreatDoor
