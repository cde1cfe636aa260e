/- Part of the proof that the law CheckRecursion answers true: what the evaluator is handed fits. No condition. -/
import Derived.Test.YtcgdnhkibjldjaaGreatDoorRows
import Derived.Test.YtcgdnhkibjldjaaGreatDoorShArgs
import Derived.Test.YtcgdnhkibjldjaaGreatDoorCheckRecursionD
namespace Go.Proofs.YtcgdnhkibjldjaaGreatDoor
open Go Go.Sh
/-- a byte that is not known -/
abbrev opqByte (n : Nat) : Opq where
  val i := if i < 100 then .string .empty else if i < 200 then .slice none 0 0 else if i = 200 then .int .u8 n else .int .i64 0
  str i h := ⟨.empty, by simp [h]⟩
  slc i h h' := ⟨none, 0, 0, by rw [if_neg (by omega), if_pos h']⟩
  int i h := by
    by_cases e : i = 200
    · exact ⟨.u8, n, by rw [if_neg (by omega), if_neg (by omega), if_pos e]⟩
    · exact ⟨.i64, 0, by rw [if_neg (by omega), if_neg (by omega), if_neg e]⟩
  lenS i s h hs := by
    rw [if_pos h] at hs
    cases hs
    rw [if_neg (by omega), if_neg (by omega), if_neg (by omega)]
    rfl
  lenL i a l c h h' hs := by
    rw [if_neg (by omega), if_pos h'] at hs
    cases hs
    rw [if_neg (by omega), if_neg (by omega), if_neg (by omega)]
    rfl
theorem crHp_eq (K : Hp) : ∀ bs : List (Nat × Nat × List SV), crHp K bs = rowHp K bs
  | [] => rfl
  | x :: bs => by unfold crHp rowHp; rw [crHp_eq K bs]
theorem crE_eq (t : Nat) (h : crE0 t = true) : Tryz.prog.stoodInHeld t = false ∧ Tryz.prog.eqGuardType Tryz.prog.depth t = false := by
  simp only [crE0, Bool.or_eq_true] at h
  rcases h with h | h | h | h | h
  · obtain rfl := Nat.eq_of_beq_eq_true h; exact ⟨by kernel_rfl, by kernel_rfl⟩
  · obtain rfl := Nat.eq_of_beq_eq_true h; exact ⟨by kernel_rfl, by kernel_rfl⟩
  · obtain rfl := Nat.eq_of_beq_eq_true h; exact ⟨by kernel_rfl, by kernel_rfl⟩
  · obtain rfl := Nat.eq_of_beq_eq_true h; exact ⟨by kernel_rfl, by kernel_rfl⟩
  · obtain rfl := Nat.eq_of_beq_eq_true h; exact ⟨by kernel_rfl, by kernel_rfl⟩
theorem crE_ok [Opq] : EOk Tryz.prog crE := ⟨crE_eq, fun _ _ _ _ _ _ _ _ h => absurd rfl h⟩
theorem crO_ne {k : Nat} {op : BinOp} {x y : SV} (h : crO k op x y ≠ .bad) : op = .rem ∧ x = .opq 200 ∧ y = .int .u8 20 ∧ crO k op x y = .int .u8 (.ofNat k) := by
  cases op <;> try exact absurd rfl h
  cases x <;> try exact absurd rfl h
  rename_i i
  cases y <;> try exact absurd rfl h
  rename_i k' m
  cases k' <;> try exact absurd rfl h
  cases m with
  | negSucc m => exact absurd rfl h
  | ofNat m =>
        simp only [crO] at h ⊢
        cases h1 : Nat.beq i 200 with
        | false => rw [h1] at h; exact absurd rfl h
        | true =>
          cases h2 : Nat.beq m 20 with
          | false => rw [h1, h2] at h; exact absurd rfl h
          | true =>
            obtain rfl := Nat.eq_of_beq_eq_true h1
            obtain rfl := Nat.eq_of_beq_eq_true h2
            exact ⟨trivial, rfl, rfl, rfl⟩
theorem crEk_ok (n k : Nat) (hk : n % 20 = k) : letI := opqByte n; EOk Tryz.prog (crEk k) := by
  letI := opqByte n
  refine ⟨crE_eq, fun op t x y v u w ρ h hx hy => ?_⟩
  obtain ⟨rfl, rfl, rfl, hr⟩ := crO_ne h
  simp only [VR] at hx hy
  have hx' : v = .int .u8 n := hx
  subst hx' hy hk
  refine ⟨.int .u8 ((n % 20 : Nat) : Int), ?_, by rw [show (crEk (n % 20)).o .rem (.opq 200) (.int .u8 20) = .int .u8 (.ofNat (n % 20)) from hr]; simp [VR]⟩
  simp [binOp, Op.intDiv]
  rfl
theorem crX_at {f : Nat} {k : XK} (h : crX f = some k) : (f = 256 ∧ k = .indexByteStr) := by
  unfold crX at h
  cases hb0 : Nat.beq f 256 with
  | true => rw [hb0, cond_true] at h; cases h; exact ⟨Nat.eq_of_beq_eq_true hb0, rfl⟩
  | false =>
  rw [hb0, cond_false] at h
  cases h
theorem crX_ok [Opq] (I : Rho → World → Prop) : XOk I Tryz.prog crX where
  ext f k h _ := by
    obtain ⟨rfl, rfl⟩ := crX_at h
    · exact row_indexByteStr ⟨_, Tryz.func256, by kernel_rfl, by kernel_rfl, by kernel_rfl, by kernel_rfl⟩
  known f rows h := by
    obtain ⟨_, h⟩ := crX_at h
    cases h
end Go.Proofs.YtcgdnhkibjldjaaGreatDoor
