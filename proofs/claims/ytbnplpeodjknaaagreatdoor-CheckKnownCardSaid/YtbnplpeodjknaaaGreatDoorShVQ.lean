/- Part of a proof that a closed law answers true: the evaluator of the first text is sound; this text is one step of it. No condition. -/
import Derived.Test.YtbnplpeodjknaaaGreatDoorShV
set_option linter.unusedSectionVars false
set_option linter.unusedSimpArgs false
set_option linter.unusedVariables false
namespace Go.Sh
variable [Opq]
open Go.RowKit (Below)
variable {I : Rho → World → Prop}
variable {P : Program} {E : EE} {callF : CallF}

theorem Hp.get_set_there : ∀ (t : Hp) (k : Nat) (x : SBlk), isNone (t.get k) = false → (t.set k x).get k = x := by
  intro t
  induction t with
  | e => intro k x h; rw [Hp.get_e] at h; cases h
  | n l v r ihl ihr =>
    intro k x h
    rw [Hp.set_n]
    rw [Hp.get_n] at h
    cases hk : Nat.beq k 0 <;> cases hk2 : Nat.beq (Nat.mod k 2) 1 <;> simp only [cond_true, cond_false, Hp.get_n, hk, hk2] at h ⊢
    · exact ihr _ _ h
    · exact ihl _ _ h
/-! ## blocks under another reading -/
theorem Rel.reblk {ρ : Rho} {N : Bound I} {s : St} {w : World} (H : Rel ρ N s w) {b : Nat} {blk : SBlk} (hB : ∀ q base e, ρ b = some (q, base, e) → BR ρ base e blk w.heap[q]?) (hw : writable blk = true → writable (s.h.get b) = true) (hn : isNone blk = false → isNone (s.h.get b) = false) :
    Rel ρ N (s.withH (s.h.set b blk)) w := by
  have get : ∀ b', ((s.withH (s.h.set b blk)).h.get b' = s.h.get b' ∧ b' ≠ b) ∨ (b' = b ∧ ((s.withH (s.h.set b blk)).h.get b' = blk ∨ (s.withH (s.h.set b blk)).h.get b' = .none)) := fun b' => by
    by_cases e : b' = b
    · subst e; exact .inr ⟨rfl, Hp.get_set_eq s.h b' blk⟩
    · exact .inl ⟨Hp.get_set_ne _ _ _ _ e, e⟩
  have gw : ∀ b', writable ((s.withH (s.h.set b blk)).h.get b') = true → writable (s.h.get b') = true := fun b' h => by
    rcases get b' with ⟨h1, _⟩ | ⟨rfl, h1 | h1⟩
    · rw [h1] at h; exact h
    · rw [h1] at h; exact hw h
    · rw [h1] at h; simp [writable] at h
  have gn : ∀ b', isNone ((s.withH (s.h.set b blk)).h.get b') = false → isNone (s.h.get b') = false := fun b' h => by
    rcases get b' with ⟨h1, _⟩ | ⟨rfl, h1 | h1⟩
    · rw [h1] at h; exact h
    · rw [h1] at h; exact hn h
    · rw [h1] at h; simp [isNone] at h
  refine ⟨H.fresh, fun b' q base e hb => ?_, H.bound, fun b' q base e hb h => H.low _ _ _ _ hb (gw b' h), fun b1 b2 q x1 y1 x2 y2 h1 h2 n1 n2 => H.inj _ _ _ _ _ _ _ h1 h2 (gw b1 n1) (gn b2 n2), H.size, H.inv⟩
  rcases get b' with ⟨h1, _⟩ | ⟨rfl, h1 | h1⟩
  · rw [h1]; exact H.live _ _ _ _ hb
  · rw [h1]; exact hB _ _ _ hb
  · rw [h1]; simp [BR]
theorem Ext.reblk {ρ0 ρ : Rho} {s0 s : St} (h : Ext ρ0 s0 ρ s) {b : Nat} (hb : s0.nx ≤ b) (blk : SBlk) : Ext ρ0 s0 ρ (s.withH (s.h.set b blk)) where
  le := h.le
  keep b' hb' hn := by
    obtain ⟨h1, h2⟩ := h.keep b' hb' hn
    exact ⟨h1, (Hp.get_set_ne _ _ _ _ (by omega)).trans h2⟩
  nx := h.nx
  lo := h.lo
  same b' hb' hl := (Hp.get_set_ne _ _ _ _ (by omega)).trans (h.same b' hb' hl)
/-- the world's block is another one, and the shadow says of it what it said -/
theorem Rel.poke {ρ : Rho} {N : Bound I} {s : St} {w : World} (H : Rel ρ N s w) {b r base e : Nat} (hb : ρ b = some (r, base, e)) (hw : writable (s.h.get b) = true) {o : Obj} (hB : BR ρ base e (s.h.get b) (some o)) : Rel ρ N s (putB w r o) where
  fresh := H.fresh
  live b' r' base' e' hb' := by
    have hbnd := H.bound _ _ _ _ hb
    rw [putB_get _ _ _ hbnd]
    by_cases hrr : r' = r
    · subst hrr
      rw [if_pos rfl]
      by_cases hbb : b' = b
      · subst hbb
        rw [hb] at hb'; cases hb'
        exact hB
      · cases hnn : isNone (s.h.get b') with
        | true => cases hg : s.h.get b' <;> rw [hg] at hnn <;> simp [isNone] at hnn; simp [BR]
        | false => exact absurd (H.inj _ _ _ _ _ _ _ hb hb' hw hnn).symm hbb
    · rw [if_neg hrr]; exact H.live _ _ _ _ hb'
  bound b' r' base' e' hb' := by have := H.bound _ _ _ _ hb'; simpa [putB] using this
  low := H.low
  inj := H.inj
  size := by simpa [putB] using H.size
  inv := N.stable _ _ _ _ H.inv (Rho.le_refl ρ) (Below.putB (H.low _ _ _ _ hb hw))

/-! ## a call that writes nothing older -/
theorem Hp.map_get (f : SBlk → SBlk) (hf : f .none = .none) : ∀ (t : Hp) (b : Nat), (t.map f).get b = f (t.get b)
  | .e, b => by rw [Hp.map, Hp.get_e, hf]
  | .n l v r, b => by
    have hl := Hp.map_get f hf l
    have hr := Hp.map_get f hf r
    have key : ∀ (l' : Hp) (v' : SBlk) (r' : Hp), (Hp.n l' v' r').get b = Bool.rec (motive := fun _ => SBlk) (Bool.rec (motive := fun _ => SBlk) (r'.get (Nat.pred (Nat.div b 2))) (l'.get (Nat.div b 2)) (Nat.beq (Nat.mod b 2) 1)) v' (Nat.beq b 0) := fun _ _ _ => rfl
    rw [Hp.map, key, key]
    cases Nat.beq b 0 with
    | true => rfl
    | false =>
      cases Nat.beq (Nat.mod b 2) 1 with
      | true => exact hl _
      | false => exact hr _
theorem roB_live {ρ : Rho} {base e : Nat} {blk : SBlk} {o : Option Obj} (h : BR ρ base e blk o) : BR ρ base e (roB blk) o := by
  cases blk with
  | cells ty cs => obtain ⟨rc, h1, _, _, _, h4⟩ := h; exact ⟨rc, _, _, h1, h4⟩
  | opn ty cs ub fz st => obtain ⟨rc, fz', h1, _, _, _, h4, _⟩ := h; exact ⟨rc, _, _, h1, h4⟩
  | ro ty cs => exact h
  | mapx es => exact h
  | _ => simp only [roB, BR]
theorem roB_ro (blk : SBlk) : writable (roB blk) = false := by cases blk <;> rfl
theorem roAll_get (s : St) (b : Nat) : (roAll s).h.get b = roB (s.h.get b) := Hp.map_get roB rfl s.h b
def tightN (N : Bound I) (w : World) (h : N.n ≤ w.heap.size) : Bound I := ⟨w.heap.size, fun ρ ρ' a b h1 h2 h3 => N.stable ρ ρ' a b h1 h2 (h3.mono h)⟩
theorem Rel.toRo {ρ : Rho} {N : Bound I} {s : St} {w : World} (H : Rel ρ N s w) : Rel ρ (tightN N w H.size) (roAll s) w where
  fresh := H.fresh
  live b r base e hb := by rw [roAll_get]; exact roB_live (H.live _ _ _ _ hb)
  bound := H.bound
  low _ _ _ _ _ hw := by rw [roAll_get, roB_ro] at hw; cases hw
  inj _ _ _ _ _ _ _ _ _ n1 _ := by rw [roAll_get, roB_ro] at n1; cases n1
  size := Nat.le_refl _
  inv := H.inv
theorem keepB_or (b : SBlk) : keepB b = .none ∨ (keepB b = b ∧ writable b = true) := by cases b <;> first | exact .inl rfl | exact .inr ⟨rfl, rfl⟩
theorem addNew_get (h' : Hp) (a : Nat) : ∀ (k : Nat) (h : Hp) (b : Nat), ((addNew h' a k h).get b = h.get b ∧ (b < a ∨ a + k ≤ b)) ∨ (a ≤ b ∧ b < a + k ∧ ((addNew h' a k h).get b = keepB (h'.get b) ∨ (addNew h' a k h).get b = .none))
  | 0, h, b => .inl ⟨rfl, by omega⟩
  | k + 1, h, b => by
    simp only [addNew]
    have hk : Nat.add a k = a + k := rfl
    rw [hk]
    rcases addNew_get h' a k (h.set (a + k) (keepB (h'.get (a + k)))) b with ⟨h1, h2⟩ | ⟨h1, h2, h3⟩
    · by_cases e : b = a + k
      · subst e
        right
        refine ⟨by omega, by omega, ?_⟩
        rw [h1]
        exact Hp.get_set_eq _ _ _
      · left
        exact ⟨h1.trans (Hp.get_set_ne _ _ _ _ e), by omega⟩
    · exact .inr ⟨h1, by omega, h3⟩
theorem merge_old {s s' : St} {b : Nat} (h : b < s.nx) : (mergeNew s s').h.get b = s.h.get b := by
  rcases addNew_get s'.h s.nx (Nat.sub s'.nx s.nx) s.h b with ⟨h1, _⟩ | ⟨h1, _, _⟩
  · exact h1
  · omega
theorem merge_new {s s' : St} {b : Nat} (h : s.nx ≤ b) (h' : b < s'.nx) : (mergeNew s s').h.get b = .none ∨ ((mergeNew s s').h.get b = s'.h.get b ∧ writable (s'.h.get b) = true) := by
  rcases addNew_get s'.h s.nx (Nat.sub s'.nx s.nx) s.h b with ⟨_, h2⟩ | ⟨_, _, h3⟩
  · have : Nat.sub s'.nx s.nx = s'.nx - s.nx := rfl
    omega
  · rcases h3 with h3 | h3
    · rcases keepB_or (s'.h.get b) with h4 | ⟨h4, h5⟩
      · exact .inl (h3.trans h4)
      · exact .inr ⟨h3.trans h4, h5⟩
    · exact .inl h3
theorem Rel.merge {ρ ρ' : Rho} {N : Bound I} {s s' : St} {w w' : World} (H : Rel ρ N s w) (H' : Rel ρ' (tightN N w H.size) s' w') (hE : Ext ρ (roAll s) ρ' s') (hB : Below w.heap.size w w') : Rel ρ' N (mergeNew s s') w' := by
  have hold : ∀ b x, b < s.nx → ρ' b = some x → ρ b = some x := fun b x hb hx => by
    cases hr : ρ b with
    | none => have := (hE.keep b hb hr).1; rw [this] at hx; cases hx
    | some y => have := hE.le b y hr; rw [this] at hx; exact hx
  have hlt' : ∀ b x, ρ' b = some x → b < s'.nx := fun b x hx => by
    rcases Nat.lt_or_ge b s'.nx with h | h
    · exact h
    · rw [H'.fresh b h] at hx; cases hx
  have split : ∀ b x, ρ' b = some x → (b < s.nx ∧ ρ b = some x ∧ (mergeNew s s').h.get b = s.h.get b) ∨ (s.nx ≤ b ∧ ((mergeNew s s').h.get b = .none ∨ ((mergeNew s s').h.get b = s'.h.get b ∧ writable (s'.h.get b) = true))) := fun b x hx => by
    rcases Nat.lt_or_ge b s.nx with h | h
    · exact .inl ⟨h, hold b x h hx, merge_old h⟩
    · exact .inr ⟨h, merge_new h (hlt' b x hx)⟩
  have hN : (tightN N w H.size).n = w.heap.size := rfl
  refine ⟨fun b hb => H'.fresh b hb, ?_, H'.bound, ?_, ?_, Nat.le_trans H.size hB.size, N.stable _ _ _ _ H.inv hE.le (hB.mono H.size)⟩
  · intro b r base e hb
    rcases split b _ hb with ⟨h1, h2, h3⟩ | ⟨h1, h3 | ⟨h3, _⟩⟩
    · rw [h3, hB.block r (H.bound _ _ _ _ h2)]; exact (H.live _ _ _ _ h2).mono hE.le
    · rw [h3]; simp [BR]
    · rw [h3]; exact H'.live _ _ _ _ hb
  · intro b r base e hb hw
    rcases split b _ hb with ⟨h1, h2, h3⟩ | ⟨h1, h3 | ⟨h3, h4⟩⟩
    · rw [h3] at hw; exact H.low _ _ _ _ h2 hw
    · rw [h3] at hw; simp [writable] at hw
    · have := H'.low _ _ _ _ hb h4
      rw [hN] at this
      have := H.size
      omega
  · intro b1 b2 r x1 y1 x2 y2 h1 h2 n1 n2
    rcases split b1 _ h1 with ⟨_, p2, p3⟩ | ⟨_, p3 | ⟨p3, p4⟩⟩ <;> rcases split b2 _ h2 with ⟨_, q2, q3⟩ | ⟨_, q3 | ⟨q3, q4⟩⟩
    · rw [p3] at n1; rw [q3] at n2; exact H.inj _ _ _ _ _ _ _ p2 q2 n1 n2
    · rw [q3] at n2; simp [isNone] at n2
    · have k1 := H'.low _ _ _ _ h2 q4
      rw [hN] at k1
      have k2 := H.bound _ _ _ _ p2
      omega
    · rw [p3] at n1; simp [writable] at n1
    · rw [p3] at n1; simp [writable] at n1
    · rw [p3] at n1; simp [writable] at n1
    · have k1 := H'.low _ _ _ _ h1 p4
      rw [hN] at k1
      have k2 := H.bound _ _ _ _ q2
      omega
    · rw [q3] at n2; simp [isNone] at n2
    · exact H'.inj _ _ _ _ _ _ _ h1 h2 p4 (isNone_of_writable q4)
theorem Ext.merge {ρ ρ' : Rho} {s s' : St} (hE : Ext ρ (roAll s) ρ' s') : Ext ρ s ρ' (mergeNew s s') where
  le := hE.le
  keep b hb hn := ⟨(hE.keep b hb hn).1, merge_old hb⟩
  nx := hE.nx
  lo := Nat.le_refl _
  same _ hb _ := merge_old hb
end Go.Sh
