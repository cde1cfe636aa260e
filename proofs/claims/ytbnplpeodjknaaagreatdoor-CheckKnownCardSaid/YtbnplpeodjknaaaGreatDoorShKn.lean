/- Part of a proof that a closed law answers true: the evaluator of the first text is sound; this text is one step of it. No condition. -/
import Derived.Test.YtbnplpeodjknaaaGreatDoorShExt
set_option linter.unusedSectionVars false
set_option linter.unusedSimpArgs false
set_option linter.unusedVariables false
namespace Go.Sh
open Go.RowKit (Below)
variable {I : Rho → World → Prop}
variable {P : Program} {E : EE}

/-- the heap of a row: what is known of the variables, and the row's own blocks, to be read -/
noncomputable def rowHp (K : Hp) : List (Nat × Nat × List SV) → Hp
  | [] => K
  | x :: bs => (rowHp K bs).set x.1 (.ro x.2.1 x.2.2)
theorem rowHp_get (K : Hp) : ∀ (bs : List (Nat × Nat × List SV)) (b : Nat), (rowHp K bs).get b = K.get b ∨ (rowHp K bs).get b = .none ∨ ∃ x ∈ bs, x.1 = b ∧ (rowHp K bs).get b = .ro x.2.1 x.2.2
  | [], b => .inl rfl
  | x :: bs, b => by
    simp only [rowHp]
    by_cases hb : b = x.1
    · subst hb
      rcases Hp.get_set_eq (rowHp K bs) x.1 (.ro x.2.1 x.2.2) with hg | hg
      · exact .inr (.inr ⟨x, List.mem_cons_self, rfl, hg⟩)
      · exact .inr (.inl hg)
    · rw [Hp.get_set_ne _ _ _ _ hb]
      rcases rowHp_get K bs b with h | h | ⟨y, hy, h1, h2⟩
      · exact .inl h
      · exact .inr (.inl h)
      · exact .inr (.inr ⟨y, List.mem_cons_of_mem _ hy, h1, h2⟩)
variable [Opq]
/-- what is asked of the knowledge of the world -/
structure KI (I : Rho → World → Prop) (K : Hp) : Prop where
  live : ∀ ρ w, I ρ w → ∀ b q base e, ρ b = some (q, base, e) → BR ρ base e (K.get b) w.heap[q]?
  ro : ∀ b, writable (K.get b) = false
  bound : ∀ ρ w, I ρ w → ∃ N : Bound I, N.n = w.heap.size

theorem krow_rel {K : Hp} (hK : KI I K) (r : KRow) {ρ : Rho} {w : World} (hI : I ρ w) (hf : ∀ b, r.nx ≤ b → ρ b = none) (hb : ∀ b q base e, ρ b = some (q, base, e) → q < w.heap.size)
    (hbs : ∀ x ∈ r.bs, ∀ q base e, ρ x.1 = some (q, base, e) → BR ρ base e (.ro x.2.1 x.2.2) w.heap[q]?) : ∃ N : Bound I, N.n = w.heap.size ∧ Rel ρ N ⟨rowHp K r.bs, r.nx, big⟩ w := by
  obtain ⟨N, hN⟩ := hK.bound ρ w hI
  have nw : ∀ b, writable ((rowHp K r.bs).get b) = false := fun b => by
    rcases rowHp_get K r.bs b with h | h | ⟨x, _, _, h⟩
    · rw [h]; exact hK.ro b
    · rw [h]; rfl
    · rw [h]; rfl
  refine ⟨N, hN, ⟨hf, ?_, hb, ?_, ?_, by omega, hI⟩⟩
  · intro b q base e hq
    show BR ρ base e ((rowHp K r.bs).get b) _
    rcases rowHp_get K r.bs b with h | h | ⟨x, hx, rfl, h⟩
    · rw [h]; exact hK.live ρ w hI b q base e hq
    · rw [h]; simp [BR]
    · rw [h]; exact hbs x hx q base e hq
  · intro b q base e _ hw
    exact absurd (nw b) (by rw [show writable ((rowHp K r.bs).get b) = true from hw]; simp)
  · intro b b' q base e base' e' _ _ hw _
    exact absurd (nw b) (by rw [show writable ((rowHp K r.bs).get b) = true from hw]; simp)

theorem sameEs_eq : ∀ (xs ys : List (SV × SV × Nat)), sameEs xs ys = true → xs = ys
  | [], [], _ => rfl
  | [], _ :: _, h => by cases h
  | _ :: _, [], h => by cases h
  | (a, b, n) :: xs, (c, d, m) :: ys, h => by
    simp only [sameEs] at h
    cases h1 : sameF 1000 a c with
    | false => rw [h1] at h; cases h
    | true =>
      rw [h1, cond_true] at h
      cases h2 : sameF 1000 b d with
      | false => rw [h2] at h; cases h
      | true =>
        rw [h2, cond_true] at h
        cases h3 : Nat.beq n m with
        | false => rw [h3] at h; cases h
        | true =>
          rw [h3, cond_true] at h
          rw [sameF_eq _ _ _ h1, sameF_eq _ _ _ h2, Nat.eq_of_beq_eq_true h3, sameEs_eq xs ys h]
theorem eqB_true {a b : Bool} (h : eqB a b = true) : a = b := by cases a <;> cases b <;> first | rfl | cases h
theorem sameBlk_eq {x y : SBlk} (h : sameBlk x y = true) : x = .none ∨ (x = y ∧ writable x = true) := by
  cases x with
  | none => exact .inl rfl
  | cells t cs =>
    right
    simp only [sameBlk] at h
    split at h
    · rename_i t' cs'
      cases h1 : Nat.beq t t' with
      | false => rw [h1] at h; cases h
      | true => rw [h1, cond_true] at h; exact ⟨by rw [Nat.eq_of_beq_eq_true h1, samesF_eq _ _ _ h], rfl⟩
    · cases h
  | opn t cs ub fz st =>
    right
    simp only [sameBlk] at h
    split at h
    · rename_i t' cs' ub' fz' st'
      cases h1 : (Nat.beq t t' && Nat.beq ub ub' && Nat.beq fz fz' && eqB st st') with
      | false => rw [h1] at h; cases h
      | true =>
        rw [h1, cond_true] at h
        simp only [Bool.and_eq_true] at h1
        exact ⟨by rw [Nat.eq_of_beq_eq_true h1.1.1.1, Nat.eq_of_beq_eq_true h1.1.1.2, Nat.eq_of_beq_eq_true h1.1.2, eqB_true h1.2, samesF_eq _ _ _ h], rfl⟩
    · cases h
  | map es c =>
    right
    simp only [sameBlk] at h
    split at h
    · rename_i es' c'
      cases h1 : Nat.beq c c' with
      | false => rw [h1] at h; cases h
      | true => rw [h1, cond_true] at h; exact ⟨by rw [Nat.eq_of_beq_eq_true h1, sameEs_eq _ _ h], rfl⟩
    · cases h
  | ro t cs => simp [sameBlk] at h
  | siter l n p => simp [sameBlk] at h
  | lp _ _ _ _ _ _ _ _ => simp [sameBlk] at h
  | dm => simp [sameBlk] at h
  | mapp _ => simp [sameBlk] at h
  | mapx _ => simp [sameBlk] at h
theorem newsFit_all : ∀ (l : List SBlk) (b : Nat) (s : St), newsFit l b s = true → s.nx = b + l.length ∧ ∀ (i : Nat) (blk : SBlk), l[i]? = some blk → sameBlk blk (s.h.get (b + i)) = true
  | [], b, s, h => ⟨by simpa using Nat.eq_of_beq_eq_true h, fun i blk hi => by simp at hi⟩
  | x :: l, b, s, h => by
    simp only [newsFit] at h
    cases h1 : sameBlk x (s.h.get b) with
    | false => rw [h1] at h; cases h
    | true =>
      rw [h1, cond_true] at h
      obtain ⟨h2, h3⟩ := newsFit_all l (Nat.succ b) s h
      refine ⟨by rw [h2, List.length_cons]; omega, fun i blk hi => ?_⟩
      cases i with
      | zero => simp only [List.getElem?_cons_zero, Option.some.injEq] at hi; subst hi; exact h1
      | succ i =>
        have := h3 i blk (by simpa using hi)
        rw [show b + (i + 1) = Nat.succ b + i by omega]
        exact this
def rowSc (r : KRow) : Bool := match r.news with | none => scalV r.res | some _ => true
theorem row_end {ρ ρ' : Rho} {N : Bound I} {s s' : St} {w w' : World} {r : KRow} {x : SV} {v : Value} (hN : N.n = w.heap.size) (hnx : s.nx = r.nx) (hsc : rowSc r = true) (hx : VR ρ' x v) (H' : Rel ρ' N s' w') (hE : Ext ρ s ρ' s') (hk : rowEnd r x s' = true) : RowEnd ρ w w' r v := by
  obtain ⟨nx, args, bs, res, news⟩ := r
  unfold rowEnd at hk
  cases h1 : sameF 1000 x res with
  | false => simp only [h1] at hk; cases hk
  | true =>
    simp only [h1, cond_true] at hk
    obtain rfl := sameF_eq _ _ _ h1
    cases news with
    | none => exact scalV_VR hsc hx
    | some l =>
      simp only at hk hnx
      obtain ⟨h2, h3⟩ := newsFit_all l nx s' hk
      have at' : ∀ (i : Nat) (blk : SBlk), l[i]? = some blk → isNone blk = false → blk = s'.h.get (nx + i) ∧ writable blk = true := fun i blk hi hn => by
        rcases sameBlk_eq (h3 i blk hi) with rfl | h
        · simp [isNone] at hn
        · exact h
      refine ⟨ρ', hE.le, hx, fun b hb => H'.fresh b (by rw [h2]; exact hb), fun b hb' => ?_, H'.bound, ?_, ?_, fun i blk hi hn => (at' i blk hi hn).2⟩
      · have hb : b < nx := hb'
        cases hr : ρ b with
        | none => exact (hE.keep b (by omega) hr).1
        | some y => exact hE.le b y hr
      · intro i blk hi q base e hq
        rcases sameBlk_eq (h3 i blk hi) with rfl | ⟨h4, h5⟩
        · exact ⟨by simp [BR], fun h => by simp [isNone] at h⟩
        · have hL := H'.live _ _ _ _ hq
          rw [← h4] at hL
          refine ⟨hL, fun _ => ?_⟩
          have := H'.low _ _ _ _ hq (by rw [← h4]; exact h5)
          rw [← hN]
          exact this
      · intro i j blk blk' hi hj hn hn' q base e base' e' hq hq'
        obtain ⟨e1, w1⟩ := at' i blk hi hn
        obtain ⟨e2, _⟩ := at' j blk' hj hn'
        have := H'.inj _ _ _ _ _ _ _ hq hq' (by rw [← e1]; exact w1) (by rw [← e2]; exact hn')
        omega
/-- **A row of calls, out of the evaluator's answer.** -/
theorem krow_of_ev (hM : P.follows .mixedOrders = true) (hP : PH P E) {X : FuncId → Option XK} (hX : XOk I P X) {K : Hp} (hK : KI I K) {f : FuncId} {r : KRow} {m : Nat}
    (hnx : Nat.beq r.nx 0 = false) (hsc : rowSc r = true) (hbody : (bodyOf P f).isSome = true)
    (h : (ev E X P (m + 1)).f.f f r.args ⟨rowHp K r.bs, r.nx, big⟩ (rowEnd r) (fun _ _ => false) = true) : KRowOk I P f r where
  body := hbody
  calls ρ w args' hI hG hf hb hbs hargs := by
    obtain ⟨N, hN, H⟩ := krow_rel hK r hI (hf fun h => by rw [h] at hnx; simp at hnx) hb hbs
    obtain ⟨_, h2, _⟩ := ev_sound (E := E) hM hP hX (m + 1)
    rcases h2.f f r.args _ _ _ h ρ N w args' H hG hargs with ⟨_, hc⟩ | ⟨v, w', hv, _⟩
    · refine hc.mono fun e w' he => ?_
      cases e with
      | returned v =>
        obtain ⟨ρ', s', x, hx, H', hE, hB, hk⟩ := he
        exact ⟨v, rfl, by rw [← hN]; exact hB, row_end hN rfl hsc hx H' hE hk⟩
      | panicked c =>
        obtain ⟨_, _, _, _, _, _, _, _, _, hk⟩ := he
        cases hk
      | outgrown => exact he.elim
    · rw [enter_of_body hbody] at hv
      cases hv

/-! ## the knowledge of the variables that are laid -/
def LaidI (K : Hp) (ρ0 : Rho) (n0 : Nat) (ρ : Rho) (w : World) : Prop :=
  ρ0.le ρ ∧ n0 ≤ w.heap.size ∧ (∀ b, isNone (K.get b) = false → ∃ x, ρ0 b = some x) ∧ ∀ b q base e, ρ0 b = some (q, base, e) → q < n0 ∧ BR ρ0 base e (K.get b) w.heap[q]?
theorem LaidI.stable {K : Hp} {ρ0 : Rho} {n0 n : Nat} (hn : n0 ≤ n) (ρ ρ' : Rho) (w w' : World) (h : LaidI K ρ0 n0 ρ w) (hle : ρ.le ρ') (hB : Below n w w') : LaidI K ρ0 n0 ρ' w' :=
  ⟨Rho.le_trans h.1 hle, Nat.le_trans h.2.1 hB.size, h.2.2.1, fun b q base e hq => ⟨(h.2.2.2 b q base e hq).1, by
    rw [hB.block q (Nat.lt_of_lt_of_le (h.2.2.2 b q base e hq).1 hn)]; exact (h.2.2.2 b q base e hq).2⟩⟩
theorem LaidI.ki {K : Hp} {ρ0 : Rho} {n0 : Nat} (ro : ∀ b, writable (K.get b) = false) : KI (LaidI K ρ0 n0) K where
  live ρ w h b q base e hq := by
    cases hn : isNone (K.get b) with
    | true => cases hg : K.get b <;> rw [hg] at hn <;> simp [isNone] at hn; simp [BR]
    | false =>
      obtain ⟨⟨q', base', e'⟩, hx⟩ := h.2.2.1 b hn
      have := h.1 b _ hx
      rw [hq] at this
      cases this
      exact (h.2.2.2 b q base e hx).2.mono h.1
  ro := ro
  bound ρ w h := ⟨⟨w.heap.size, LaidI.stable h.2.1⟩, rfl⟩
/-! ## rows at any number of names -/
/-- does a value lead nowhere? -/
def flatF : Nat → SV → Bool
  | 0 => fun _ => false
  | n + 1 => fun x => (match x with
    | .agg cs => cs.all (flatF n)
    | .tup cs => cs.all (flatF n)
    | .fn _ a c => a.all (flatF n) && c.all (flatF n)
    | .ifc _ v => flatF n v
    | .emp => true
    | v => scal v)
theorem flatF_VR {ρ ρ' : Rho} : ∀ (n : Nat) (x : SV) (v : Value), flatF n x = true → VR ρ x v → VR ρ' x v
  | 0, x, v, h, _ => by simp [flatF] at h
  | n + 1, x, v, h, hv => by
    have all : ∀ (cs : List SV) (l : List Value), cs.all (flatF n) = true → VRs ρ cs l → VRs ρ' cs l := by
      intro cs
      induction cs with
      | nil => intro l _ hl; rw [VRs.nil_iff] at hl ⊢; exact hl
      | cons c cs ih =>
        intro l hc hl
        rw [List.all_cons, Bool.and_eq_true] at hc
        obtain ⟨y, ys, h1, h2, rfl⟩ := hl.cons_inv
        exact VRs.cons (flatF_VR n c y hc.1 h1) (ih ys hc.2 h2)
    simp only [flatF] at h
    split at h
    · rename_i cs; simp only [VR] at hv ⊢; obtain ⟨l, hl, rfl⟩ := hv; exact ⟨l, all cs l h hl, rfl⟩
    · rename_i cs; simp only [VR] at hv ⊢; obtain ⟨l, hl, rfl⟩ := hv; exact ⟨l, all cs l h hl, rfl⟩
    · rename_i f a c
      rw [Bool.and_eq_true] at h
      simp only [VR] at hv ⊢
      obtain ⟨a', c', ha, hc, rfl⟩ := hv
      exact ⟨a', c', all a a' h.1 ha, all c c' h.2 hc, rfl⟩
    · rename_i t y; simp only [VR] at hv ⊢; obtain ⟨u, hu, rfl⟩ := hv; exact ⟨u, flatF_VR n y u h hu, rfl⟩
    · simpa [VR] using hv
    · exact scal_VR h hv
theorem flats_VR {ρ ρ' : Rho} {n : Nat} : ∀ (cs : List SV) (l : List Value), cs.all (flatF n) = true → VRs ρ cs l → VRs ρ' cs l
  | [], l, _, hl => by rw [VRs.nil_iff] at hl ⊢; exact hl
  | c :: cs, l, hc, hl => by
    rw [List.all_cons, Bool.and_eq_true] at hc
    obtain ⟨y, ys, h1, h2, rfl⟩ := hl.cons_inv
    exact VRs.cons (flatF_VR n c y hc.1 h1) (flats_VR cs ys hc.2 h2)
def Rho.cut (ρ : Rho) (G : Nat) : Rho := fun b => if b < G then ρ b else none
/-- **A row of calls whose arguments lead nowhere: at any number of names.** -/
theorem krow_any_of_ev (hM : P.follows .mixedOrders = true) (hP : PH P E) {X : FuncId → Option XK} {K : Hp} {ρ0 : Rho} {n0 : Nat} (hX : XOk (LaidI K ρ0 n0) P X) (ro : ∀ b, writable (K.get b) = false) {G : Nat} (hGs : P.globals.size = G) (h0 : ∀ b, G ≤ b → ρ0 b = none) {f : FuncId} {r : KRow} {m : Nat}
    (hnx : r.nx = 0) (hbs : r.bs = []) (hnw : r.news = none) (hfl : r.args.all (flatF 100) = true) (hsc : rowSc r = true) (hbody : (bodyOf P f).isSome = true)
    (h : (ev E X P (m + 1)).f.f f r.args ⟨K, G, big⟩ (rowEnd r) (fun _ _ => false) = true) : KRowOk (LaidI K ρ0 n0) P f r where
  body := hbody
  calls ρ w args' hI hG _ hb _ hargs := by
    have hle : ρ0.le (ρ.cut G) := fun b x hx => by
      have hlt : b < G := by
        rcases Nat.lt_or_ge b G with h' | h'
        · exact h'
        · rw [h0 b h'] at hx; cases hx
      unfold Rho.cut
      rw [if_pos hlt]
      exact hI.1 b x hx
    have hI' : LaidI K ρ0 n0 (ρ.cut G) w := ⟨hle, hI.2⟩
    have hcut : ∀ b x, ρ.cut G b = some x → ρ b = some x := fun b x hx => by
      unfold Rho.cut at hx
      split at hx
      · exact hx
      · cases hx
    let N : Bound (LaidI K ρ0 n0) := ⟨w.heap.size, LaidI.stable hI.2.1⟩
    have H : Rel (ρ.cut G) N ⟨K, G, big⟩ w := by
      refine ⟨fun b hb' => ?_, fun b q base e hq => (LaidI.ki ro).live _ _ hI' b q base e hq, fun b q base e hq => hb b q base e (hcut b _ hq), fun b q base e _ hw => ?_, fun b b' q base e base' e' _ _ hw _ => ?_, Nat.le_refl _, hI'⟩
      · unfold Rho.cut
        have hb'' : G ≤ b := hb'
        rw [if_neg (by omega)]
      · have := ro b; rw [show writable (K.get b) = true from hw] at this; cases this
      · have := ro b; rw [show writable (K.get b) = true from hw] at this; cases this
    have hG' : Glob P.globals.size (ρ.cut G) := fun g hg => by
      obtain ⟨e, he⟩ := hG g hg
      refine ⟨e, ?_⟩
      unfold Rho.cut
      rw [if_pos (by omega)]
      exact he
    obtain ⟨_, h2, _⟩ := ev_sound (E := E) hM hP hX (m + 1)
    rcases h2.f f r.args _ _ _ h (ρ.cut G) N w args' H hG' (flats_VR _ _ hfl hargs) with ⟨_, hc⟩ | ⟨v, w', hv, _⟩
    · refine hc.mono fun e w' he => ?_
      cases e with
      | returned v =>
        obtain ⟨ρ', s', x, hx, H', hE, hB, hk⟩ := he
        refine ⟨v, rfl, hB, ?_⟩
        unfold rowEnd at hk
        unfold RowEnd
        rw [hnw] at hk ⊢
        cases h1 : sameF 1000 x r.res with
        | false => rw [h1] at hk; cases hk
        | true =>
          have := sameF_eq _ _ _ h1
          subst this
          unfold rowSc at hsc
          rw [hnw] at hsc
          exact scalV_VR hsc hx
      | panicked c =>
        obtain ⟨_, _, _, _, _, _, _, _, _, hk⟩ := he
        cases hk
      | outgrown => exact he.elim
    · rw [enter_of_body hbody] at hv
      cases hv
/-- the call of a function without arguments, at the start -/
theorem start_of_row {K : Hp} {ρ0 : Rho} {w : World} {f : FuncId} {r : KRow} (hr : KRowOk (LaidI K ρ0 w.heap.size) P f r) (ha : r.args = []) (hbs : r.bs = []) (hnw : r.news = none) (hG : Glob P.globals.size ρ0)
    (hfr : ∀ b, r.nx ≤ b → ρ0 b = none) (hdom : ∀ b, isNone (K.get b) = false → ∃ x, ρ0 b = some x) (hl : ∀ b q base e, ρ0 b = some (q, base, e) → q < w.heap.size ∧ BR ρ0 base e (K.get b) w.heap[q]?) :
    Calls P f #[] w (fun e w' => ∃ v, e = .returned v ∧ VR ρ0 r.res v ∧ Below w.heap.size w w') := by
  have := hr.calls ρ0 w [] ⟨Rho.le_refl _, Nat.le_refl _, hdom, hl⟩ hG (fun _ => hfr) (fun b q base e hq => (hl b q base e hq).1) (by rw [hbs]; intro x hx; cases hx) (by rw [ha]; exact VRs.nil)
  refine this.mono fun e w' he => ?_
  obtain ⟨v, h1, h2, h3⟩ := he
  unfold RowEnd at h3
  rw [hnw] at h3
  exact ⟨v, h1, h3, h2⟩
end Go.Sh
