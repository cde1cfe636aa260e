/- Part of a proof that a closed law answers true: the evaluator of the first text is sound; this text is one step of it. No condition. -/
import Derived.Test.YtabndkmddmpigaaGreatShExt
namespace Go.Sh
open Go.RowKit (Below)
variable {I : Rho → World → Prop}
variable {P : Program} {E : TypeId → Bool}

/-- the heap of a row: what is known of the variables, and the row's own blocks, to be read -/
noncomputable def rowHp (K : Hp) : List (Nat × Nat × List SV) → Hp
  | [] => K
  | x :: bs => (rowHp K bs).set x.1 (.ro x.2.1 x.2.2)
theorem rowHp_get (K : Hp) : ∀ (bs : List (Nat × Nat × List SV)) (b : Nat), (rowHp K bs).get b = K.get b ∨ (rowHp K bs).get b = .none ∨ ∃ x ∈ bs, x.1 = b ∧ (rowHp K bs).get b = .ro x.2.1 x.2.2
  | [], b => .inl rfl
  | x :: bs, b => by
    simp only [rowHp]
    by_cases hb : b = x.1
    · subst hb
      rcases Hp.get_set_eq (rowHp K bs) x.1 (.ro x.2.1 x.2.2) with hg | hg
      · exact .inr (.inr ⟨x, List.mem_cons_self, rfl, hg⟩)
      · exact .inr (.inl hg)
    · rw [Hp.get_set_ne _ _ _ _ hb]
      rcases rowHp_get K bs b with h | h | ⟨y, hy, h1, h2⟩
      · exact .inl h
      · exact .inr (.inl h)
      · exact .inr (.inr ⟨y, List.mem_cons_of_mem _ hy, h1, h2⟩)
/-- what is asked of the knowledge of the world -/
structure KI (I : Rho → World → Prop) (K : Hp) : Prop where
  live : ∀ ρ w, I ρ w → ∀ b q base e, ρ b = some (q, base, e) → BR ρ base e (K.get b) w.heap[q]?
  ro : ∀ b, writable (K.get b) = false
  bound : ∀ ρ w, I ρ w → ∃ N : Bound I, N.n = w.heap.size

theorem krow_rel {K : Hp} (hK : KI I K) (r : KRow) {ρ : Rho} {w : World} (hI : I ρ w) (hf : ∀ b, r.nx ≤ b → ρ b = none) (hb : ∀ b q base e, ρ b = some (q, base, e) → q < w.heap.size)
    (hbs : ∀ x ∈ r.bs, ∀ q base e, ρ x.1 = some (q, base, e) → BR ρ base e (.ro x.2.1 x.2.2) w.heap[q]?) : ∃ N : Bound I, N.n = w.heap.size ∧ Rel ρ N ⟨rowHp K r.bs, r.nx, big⟩ w := by
  obtain ⟨N, hN⟩ := hK.bound ρ w hI
  have nw : ∀ b, writable ((rowHp K r.bs).get b) = false := fun b => by
    rcases rowHp_get K r.bs b with h | h | ⟨x, _, _, h⟩
    · rw [h]; exact hK.ro b
    · rw [h]; rfl
    · rw [h]; rfl
  refine ⟨N, hN, ⟨hf, ?_, hb, ?_, ?_, by omega, hI⟩⟩
  · intro b q base e hq
    show BR ρ base e ((rowHp K r.bs).get b) _
    rcases rowHp_get K r.bs b with h | h | ⟨x, hx, rfl, h⟩
    · rw [h]; exact hK.live ρ w hI b q base e hq
    · rw [h]; simp [BR]
    · rw [h]; exact hbs x hx q base e hq
  · intro b q base e _ hw
    exact absurd (nw b) (by rw [show writable ((rowHp K r.bs).get b) = true from hw]; simp)
  · intro b b' q base e base' e' _ _ hw _
    exact absurd (nw b) (by rw [show writable ((rowHp K r.bs).get b) = true from hw]; simp)

/-- **A row of calls, out of the evaluator's answer.** -/
theorem krow_of_ev (hM : P.follows .mixedOrders = true) (hP : PH P E) {X : FuncId → Option XK} (hX : XOk I P X) {K : Hp} (hK : KI I K) {f : FuncId} {r : KRow} {m : Nat}
    (hsc : scalV r.res = true) (hbody : (bodyOf P f).isSome = true)
    (h : (ev E X P (m + 1)).f f r.args ⟨rowHp K r.bs, r.nx, big⟩ (fun x _ => sameF 1000 x r.res) (fun _ _ => false) = true) : KRowOk I P f r where
  scal := hsc
  body := hbody
  calls ρ w args' hI hG hf hb hbs hargs := by
    obtain ⟨N, hN, H⟩ := krow_rel hK r hI hf hb hbs
    obtain ⟨_, h2, _⟩ := ev_sound (E := E) hM hP hX (m + 1)
    rcases h2 f r.args _ _ _ h ρ N w args' H hG hargs with ⟨_, hc⟩ | ⟨v, w', hv, _⟩
    · refine hc.mono fun e w' he => ?_
      cases e with
      | returned v =>
        obtain ⟨ρ', s', x, hx, _, hE, hB, hk⟩ := he
        obtain rfl := sameF_eq _ _ _ hk
        exact ⟨v, rfl, scalV_VR hsc hx, by rw [← hN]; exact hB⟩
      | panicked c =>
        obtain ⟨_, _, _, _, _, _, _, _, _, hk⟩ := he
        cases hk
      | outgrown => exact he.elim
    · rw [enter_of_body hbody] at hv
      cases hv

/-! ## the knowledge of the variables that are laid -/
def LaidI (K : Hp) (ρ0 : Rho) (n0 : Nat) (ρ : Rho) (w : World) : Prop :=
  ρ0.le ρ ∧ n0 ≤ w.heap.size ∧ (∀ b, isNone (K.get b) = false → ∃ x, ρ0 b = some x) ∧ ∀ b q base e, ρ0 b = some (q, base, e) → q < n0 ∧ BR ρ0 base e (K.get b) w.heap[q]?
theorem LaidI.stable {K : Hp} {ρ0 : Rho} {n0 n : Nat} (hn : n0 ≤ n) (ρ ρ' : Rho) (w w' : World) (h : LaidI K ρ0 n0 ρ w) (hle : ρ.le ρ') (hB : Below n w w') : LaidI K ρ0 n0 ρ' w' :=
  ⟨Rho.le_trans h.1 hle, Nat.le_trans h.2.1 hB.size, h.2.2.1, fun b q base e hq => ⟨(h.2.2.2 b q base e hq).1, by
    rw [hB.block q (Nat.lt_of_lt_of_le (h.2.2.2 b q base e hq).1 hn)]; exact (h.2.2.2 b q base e hq).2⟩⟩
theorem LaidI.ki {K : Hp} {ρ0 : Rho} {n0 : Nat} (ro : ∀ b, writable (K.get b) = false) : KI (LaidI K ρ0 n0) K where
  live ρ w h b q base e hq := by
    cases hn : isNone (K.get b) with
    | true => cases hg : K.get b <;> rw [hg] at hn <;> simp [isNone] at hn; simp [BR]
    | false =>
      obtain ⟨⟨q', base', e'⟩, hx⟩ := h.2.2.1 b hn
      have := h.1 b _ hx
      rw [hq] at this
      cases this
      exact (h.2.2.2 b q base e hx).2.mono h.1
  ro := ro
  bound ρ w h := ⟨⟨w.heap.size, LaidI.stable h.2.1⟩, rfl⟩
/-- the call of a function without arguments, at the start -/
theorem start_of_row {K : Hp} {ρ0 : Rho} {w : World} {f : FuncId} {r : KRow} (hr : KRowOk (LaidI K ρ0 w.heap.size) P f r) (ha : r.args = []) (hbs : r.bs = []) (hG : Glob P.globals.size ρ0)
    (hfr : ∀ b, r.nx ≤ b → ρ0 b = none) (hdom : ∀ b, isNone (K.get b) = false → ∃ x, ρ0 b = some x) (hl : ∀ b q base e, ρ0 b = some (q, base, e) → q < w.heap.size ∧ BR ρ0 base e (K.get b) w.heap[q]?) :
    Calls P f #[] w (fun e w' => ∃ v, e = .returned v ∧ VR ρ0 r.res v ∧ Below w.heap.size w w') := by
  have := hr.calls ρ0 w [] ⟨Rho.le_refl _, Nat.le_refl _, hdom, hl⟩ hG hfr (fun b q base e hq => (hl b q base e hq).1) (by rw [hbs]; intro x hx; cases hx) (by rw [ha]; exact VRs.nil)
  exact this
end Go.Sh
