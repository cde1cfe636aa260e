/- Part of a proof that the law StreamableBounds answers true: the plain law, over lists and numbers. Its conditions are that the list has at most 2^47 elements. -/
import Derived.Test.YtiehafgmdbiplaaGreatDoorSbWalk
namespace Go.Proofs.YtiehafgmdbiplaaGreatDoor.PStreamableBounds
open Go.RowKit Go.Proofs.YtiehafgmdbiplaaGreatDoorW.PrintWords Go.Proofs.YtiehafgmdbiplaaGreatDoorW.PrintLast Go.Proofs.YtiehafgmdbiplaaGreatDoorW.PrintMore

def most : List S65 → Int → Int
  | [], m => m
  | x :: xs, m => most xs (mx m (mn x.f1 1000))
def most67 : List S67 → Int → Int
  | [], m => m
  | x :: xs, m => most67 xs (mx m (mx 0 (mn x.f1 1000)))
def turn (x : S65) : S67 := ⟨x.f0, x.f1⟩
theorem most_eq : ∀ (xs : List S65) (m : Int), 0 ≤ m → most67 (xs.map turn) m = most xs m
  | [], m, _ => rfl
  | x :: xs, m, h => by
    simp only [List.map_cons, most67, most, turn]
    have e : mx m (mx 0 (mn x.f1 1000)) = mx m (mn x.f1 1000) := by
      unfold mx mn
      repeat' split
      all_goals omega
    rw [e]
    exact most_eq xs _ (by unfold mx; split <;> omega)
theorem most_le : ∀ (xs : List S65) (m : Int), 0 ≤ m → m ≤ 1000 → 0 ≤ most xs m ∧ most xs m ≤ 1000
  | [], m, h, h' => ⟨h, h'⟩
  | x :: xs, m, h, h' => most_le xs _ (by unfold mx; split <;> omega) (by unfold mx mn; repeat' split; all_goals omega)
theorem rd65_drop {xs : List S65} {i : Nat} (h : i < xs.length) : xs.drop i = rd_T65 xs i :: xs.drop (i + 1) := by
  rw [List.drop_eq_getElem_cons h]
  congr 1
  unfold rd_T65
  simp [h]
theorem rd67_drop {xs : List S67} {i : Nat} (h : i < xs.length) : xs.drop i = rd_T67 xs i :: xs.drop (i + 1) := by
  rw [List.drop_eq_getElem_cons h]
  congr 1
  unfold rd_T67
  simp [h]
theorem wrap_step {i : Nat} (h : i < 140737488351232) : wrap64 ((i : Int) + 1) = ((i + 1 : Nat) : Int) := by
  unfold wrap64
  omega
theorem bound_run (xs : List S65) (a1 a2 : Int) (hn : xs.length ≤ 140737488351232) : ∀ (d k i : Nat) (m : Int), i ≤ xs.length → xs.length - i = d → d < k →
    streamable_Bound.l0 k a1 a2 m xs (xs.length : Int) (i : Int) = some (wrap64 ((mx 0 (mn a1 1000000000)) + (wrap64 (most (xs.drop i) m * (mx 0 (mn a2 1000000000))))))
  | 0, k, i, m, hi, hd, hk => by
    obtain ⟨k, rfl⟩ : ∃ m, k = m + 1 := ⟨k - 1, by omega⟩
    simp only [streamable_Bound.l0]
    rw [if_neg (by omega), List.drop_eq_nil_of_le (by omega)]
    rfl
  | d + 1, k, i, m, hi, hd, hk => by
    obtain ⟨k, rfl⟩ : ∃ m, k = m + 1 := ⟨k - 1, by omega⟩
    simp only [streamable_Bound.l0]
    rw [if_pos (by omega), if_pos (by omega), if_pos (by omega), wrap_step (by omega)]
    rw [bound_run xs a1 a2 hn d k (i + 1) _ (by omega) (by omega) (by omega)]
    rw [rd65_drop (xs := xs) (i := i) (by omega)]
    rfl
theorem ref_run (xs : List S67) (a1 a2 : Int) (hn : xs.length ≤ 140737488351232) : ∀ (d k i : Nat) (m : Int), i ≤ xs.length → xs.length - i = d → d < k →
    chiselref37_Bound.l0 k xs a1 a2 m (i : Int) = some (wrap64 ((mx 0 (mn a1 1000000000)) + (wrap64 (most67 (xs.drop i) m * (mx 0 (mn a2 1000000000))))))
  | 0, k, i, m, hi, hd, hk => by
    obtain ⟨k, rfl⟩ : ∃ m, k = m + 1 := ⟨k - 1, by omega⟩
    simp only [chiselref37_Bound.l0, chiselref37_within.f, Option.bind_some]
    rw [if_neg (by omega), List.drop_eq_nil_of_le (by omega)]
    rfl
  | d + 1, k, i, m, hi, hd, hk => by
    obtain ⟨k, rfl⟩ : ∃ m, k = m + 1 := ⟨k - 1, by omega⟩
    simp only [chiselref37_Bound.l0, chiselref37_within.f, Option.bind_some]
    rw [if_pos (by omega), if_pos (by omega), wrap_step (by omega)]
    rw [ref_run xs a1 a2 hn d k (i + 1) _ (by omega) (by omega) (by omega)]
    rw [rd67_drop (xs := xs) (i := i) (by omega)]
    rfl
theorem given_run (xs : List S65) (hn : xs.length ≤ 1000) : ∀ (d k i : Nat) (out : List S67), i ≤ xs.length → xs.length - i = d → d < k → out.length = i →
    chisellaw37_given.l0 k xs out (i : Int) = some (out ++ (xs.drop i).map turn)
  | 0, k, i, out, hi, hd, hk, ho => by
    obtain ⟨k, rfl⟩ : ∃ m, k = m + 1 := ⟨k - 1, by omega⟩
    simp only [chisellaw37_given.l0]
    rw [if_neg (by omega), List.drop_eq_nil_of_le (by omega)]
    simp
  | d + 1, k, i, out, hi, hd, hk, ho => by
    obtain ⟨k, rfl⟩ : ∃ m, k = m + 1 := ⟨k - 1, by omega⟩
    simp only [chisellaw37_given.l0]
    rw [if_pos (by omega), if_pos (by omega), if_pos (by omega), wrap_step (by omega)]
    rw [given_run xs hn d k (i + 1) _ (by omega) (by omega) (by omega) (by simp [ho])]
    rw [rd65_drop (xs := xs) (i := i) (by omega)]
    simp [turn]
theorem pure (l0 : List S65) (a1 a2 : Int) : ∃ k, chisellaw37_StreamableBounds.f k l0 a1 a2 = some true := by
  refine ⟨l0.length + 1, ?_⟩
  unfold chisellaw37_StreamableBounds.f
  by_cases h : (l0.length : Int) > 1000
  · rw [if_pos h]; rfl
  · rw [if_neg h]
    have hl : l0.length ≤ 1000 := by omega
    have e1 := bound_run l0 a1 a2 (by omega) l0.length (l0.length + 1) 0 0 (by omega) (by omega) (by omega)
    have e2 := given_run l0 hl l0.length (l0.length + 1) 0 [] (by omega) (by omega) (by omega) rfl
    have e3 := ref_run (l0.map turn) a1 a2 (by simp; omega) (l0.map turn).length (l0.length + 1) 0 0 (by omega) (by omega) (by simp)
    simp only [List.drop_zero, List.nil_append, Int.ofNat_zero] at e1 e2 e3
    have f1 : streamable_Bound.f (l0.length + 1) l0 a1 a2 = _ := e1
    have f2 : chisellaw37_given.f (l0.length + 1) l0 = _ := e2
    have f3 : chiselref37_Bound.f (l0.length + 1) (l0.map turn) a1 a2 = _ := e3
    rw [f1, Option.bind_some, f2, Option.bind_some, f3, Option.bind_some, most_eq l0 0 (by omega), if_pos rfl]
    rfl
end Go.Proofs.YtiehafgmdbiplaaGreatDoor.PStreamableBounds
