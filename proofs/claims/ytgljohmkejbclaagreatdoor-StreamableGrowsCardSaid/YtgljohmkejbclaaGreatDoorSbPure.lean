/- Part of a proof that the law StreamableGrows answers true: the plain law, over lists and numbers. No condition. -/
import Derived.Test.YtgljohmkejbclaaGreatDoorSbWalk
namespace Go.Proofs.YtgljohmkejbclaaGreatDoor.PStreamableGrows
open Go.RowKit Go.Proofs.YtgljohmkejbclaaGreatDoorW.PrintWords Go.Proofs.YtgljohmkejbclaaGreatDoorW.PrintLast Go.Proofs.YtgljohmkejbclaaGreatDoorW.PrintMore

def most : List S24 → Int → Int
  | [], m => m
  | x :: xs, m => most xs (mx m (mn x.f1 1000))
theorem most_le : ∀ (xs : List S24) (m : Int), 0 ≤ m → m ≤ 1000 → m ≤ most xs m ∧ most xs m ≤ 1000
  | [], m, h, h' => ⟨Int.le_refl _, h'⟩
  | x :: xs, m, h, h' => by
    have h1 : m ≤ mx m (mn x.f1 1000) ∧ mx m (mn x.f1 1000) ≤ 1000 := by
      unfold mx mn
      repeat' split
      all_goals omega
    have := most_le xs (mx m (mn x.f1 1000)) (by omega) h1.2
    exact ⟨Int.le_trans h1.1 this.1, this.2⟩
theorem most_app : ∀ (xs ys : List S24) (m : Int), most (xs ++ ys) m = most ys (most xs m)
  | [], ys, m => rfl
  | x :: xs, ys, m => by simp only [List.cons_append, most]; exact most_app xs ys _
theorem rd24_drop {xs : List S24} {i : Nat} (h : i < xs.length) : xs.drop i = rd_T24 xs i :: xs.drop (i + 1) := by
  rw [List.drop_eq_getElem_cons h]
  congr 1
  unfold rd_T24
  simp [h]
theorem wrap_step {i : Nat} (h : i < 140737488351232) : wrap64 ((i : Int) + 1) = ((i + 1 : Nat) : Int) := by
  unfold wrap64
  omega
/-- what Bound answers -/
def val (xs : List S24) (a1 a2 : Int) : Int := mx 0 (mn a1 1000000000) + most xs 0 * mx 0 (mn a2 1000000000)
theorem bound_run (xs : List S24) (a1 a2 : Int) (hn : xs.length ≤ 140737488351232) : ∀ (d k i : Nat) (m : Int), i ≤ xs.length → xs.length - i = d → d < k →
    streamable_Bound.l0 k a1 a2 m xs (xs.length : Int) (i : Int) = some (wrap64 ((mx 0 (mn a1 1000000000)) + (wrap64 (most (xs.drop i) m * (mx 0 (mn a2 1000000000))))))
  | 0, k, i, m, hi, hd, hk => by
    obtain ⟨k, rfl⟩ : ∃ m, k = m + 1 := ⟨k - 1, by omega⟩
    simp only [streamable_Bound.l0]
    rw [if_neg (by omega), List.drop_eq_nil_of_le (by omega)]
    rfl
  | d + 1, k, i, m, hi, hd, hk => by
    obtain ⟨k, rfl⟩ : ∃ m, k = m + 1 := ⟨k - 1, by omega⟩
    simp only [streamable_Bound.l0]
    rw [if_pos (by omega), if_pos (by omega), if_pos (by omega), wrap_step (by omega)]
    rw [bound_run xs a1 a2 hn d k (i + 1) _ (by omega) (by omega) (by omega)]
    rw [rd24_drop (xs := xs) (i := i) (by omega)]
    rfl
theorem lim (a : Int) : 0 ≤ mx 0 (mn a 1000000000) ∧ mx 0 (mn a 1000000000) ≤ 1000000000 := by
  unfold mx mn
  repeat' split
  all_goals omega
theorem prod_le {a b : Int} (h0 : 0 ≤ a) (h1 : a ≤ 1000) (h2 : 0 ≤ b) (h3 : b ≤ 1000000000) : 0 ≤ a * b ∧ a * b ≤ 1000000000000 :=
  ⟨Int.mul_nonneg h0 h2, Int.le_trans (Int.mul_le_mul h1 h3 h2 (by omega)) (by omega)⟩
theorem bound_val (xs : List S24) (a1 a2 : Int) (hn : xs.length ≤ 140737488351232) {k : Nat} (hk : xs.length < k) : streamable_Bound.f k xs a1 a2 = some (val xs a1 a2) := by
  have h := bound_run xs a1 a2 hn xs.length k 0 0 (by omega) (by omega) hk
  unfold streamable_Bound.f
  rw [show (0 : Int) = ((0 : Nat) : Int) from rfl] at *
  rw [h, List.drop_zero]
  have h1 := most_le xs 0 (by omega) (by omega)
  have h2 := lim a1
  have h3 := lim a2
  have h4 := prod_le (a := most xs 0) (b := mx 0 (mn a2 1000000000)) h1.1 h1.2 h3.1 h3.2
  congr 1
  unfold val
  have e1 : ((0 : Nat) : Int) = 0 := rfl
  simp only [e1] at *
  generalize mx 0 (mn a1 1000000000) = D at *
  generalize most xs 0 * mx 0 (mn a2 1000000000) = M at *
  unfold wrap64
  omega
theorem lim_mono (a b : Int) : mx 0 (mn a 1000000000) ≤ mx 0 (mn (mx a b) 1000000000) := by
  unfold mx mn
  repeat' split
  all_goals omega
theorem val_mono (xs ys : List S24) (a1 a2 b1 b2 : Int) : val xs a1 a2 ≤ val (xs ++ ys) (mx a1 b1) (mx a2 b2) := by
  unfold val
  rw [most_app]
  have h1 := most_le xs 0 (by omega) (by omega)
  have h2 := most_le ys (most xs 0) h1.1 h1.2
  have h3 := lim_mono a1 b1
  have h4 := Int.mul_le_mul h2.1 (lim_mono a2 b2) (lim a2).1 (Int.le_trans h1.1 h2.1)
  omega
theorem pure (l0 : List S24) (s : ByteArray) (z a2 a3 a4 a5 : Int) : ∃ k, chisellaw37_StreamableGrows.f k l0 s z a2 a3 a4 a5 = some true := by
  refine ⟨l0.length + 2, ?_⟩
  unfold chisellaw37_StreamableGrows.f
  by_cases h : (l0.length : Int) > 1000
  · rw [if_pos h]; rfl
  · rw [if_neg h]
    have hl : l0.length ≤ 1000 := by omega
    rw [bound_val l0 a2 a3 (by omega) (by omega), Option.bind_some, Option.bind_some, List.nil_append, if_pos (by simp; omega), Option.bind_some, Option.bind_some, if_pos (by simp; omega)]
    rw [bound_val (l0 ++ [(⟨s, z⟩ : S24)]) (mx a2 a4) (mx a3 a5) (k := l0.length + 2) (by simp; omega) (by simp), Option.bind_some]
    have hp : 0 ≤ val l0 a2 a3 := by
      unfold val
      have h1 := most_le l0 0 (by omega) (by omega)
      have := (prod_le h1.1 h1.2 (lim a3).1 (lim a3).2).1
      have := (lim a2).1
      omega
    rw [if_pos hp, if_pos (val_mono l0 [(⟨s, z⟩ : S24)] a2 a3 a4 a5), bound_val [] a2 a3 (k := l0.length + 2) (by simp) (by simp), Option.bind_some]
    have hm := val_mono [] l0 a2 a3 a2 a3
    have e : ∀ a : Int, mx a a = a := fun a => by unfold mx; split <;> rfl
    rw [e, e, List.nil_append] at hm
    rw [if_pos hm]
    rfl
end Go.Proofs.YtgljohmkejbclaaGreatDoor.PStreamableGrows
