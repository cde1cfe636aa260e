/- Part of a proof that a closed law answers true: the evaluator of the first text is sound; this text is one step of it. No condition. -/
import Derived.Test.YtbnplpeodjknaaaGreatDoorShR
set_option linter.unusedSectionVars false
set_option linter.unusedSimpArgs false
set_option linter.unusedVariables false
namespace Go.Sh
variable [Opq]
open Go.RowKit (Below)
variable {I : Rho → World → Prop}
variable {P : Program} {E : EE} {callF : CallF}
variable {ops : Array Oper} {rows : List Row} {ρ0 : Rho} {s0 : St} {w0 : World} {N : Bound I} {n : Nat} {fr0 : Fr} {a0 : Act}
variable {PI : St → Nat → Oper → En → Prop} {d : Nat} {sv : Nat → SV} {nb : Nat → Option Nat} {ps : List Pend} {fr : Fr} {s : St} {ρ : Rho} {L : Array Bool} {a : Act} {w : World}

theorem bit_or (d i j : Nat) : (d ||| 2 ^ i).testBit j = true ↔ d.testBit j = true ∨ j = i := by
  rw [Nat.testBit_or, Bool.or_eq_true, Nat.testBit_two_pow, decide_eq_true_eq]
  exact ⟨fun h => h.imp id Eq.symm, fun h => h.imp id Eq.symm⟩
theorem getD_set {L : Array Bool} {i : Nat} (h : i < L.size) (j : Nat) : (L.setIfInBounds i true).getD j false = true ↔ L.getD j false = true ∨ j = i := by
  by_cases e : j = i
  · subst e; simp [h]
  · rw [getD_set_ne false (fun x => e x.symm)]; simp [e]
theorem getD_set_false {L : Array Bool} {i : Nat} (h : i < L.size) {j : Nat} (hf : (L.setIfInBounds i true).getD j false = false) : L.getD j false = false ∧ j ≠ i := by
  constructor
  · cases hb : L.getD j false with
    | false => rfl
    | true => have := (getD_set h j).2 (.inl hb); rw [this] at hf; cases hf
  · intro e
    have := (getD_set h j).2 (.inr e)
    rw [this] at hf; cases hf
theorem put_size (a : Act) (dst : Option Tmp) (v : Value) : (a.put dst v).tmps.size = a.tmps.size := by cases dst <;> simp [Act.put]
theorem put_defers' (a : Act) (dst : Option Tmp) (v : Value) : (a.put dst v).defers = a.defers := by cases dst <;> rfl
theorem put_ne {a : Act} {dst : Option Tmp} {v : Value} {t : Tmp} (h : dst ≠ some t) : (a.put dst v).tmps[t]? = a.tmps[t]? := by
  cases dst with
  | none => rfl
  | some d => simp only [Act.put]; rw [Array.getElem?_setIfInBounds_ne (fun e => h (by rw [e]))]
theorem put_eq {a : Act} {t : Tmp} {v : Value} (h : t < a.tmps.size) : (a.put (some t) v).tmps[t]? = some v := by simp [Act.put, h]

/-- a row that was pending is done -/
theorem inv_do (F : RF ops rows) (I : Inv PI P ops rows ρ0 s0 w0 N n fr0 a0 d sv nb ps fr s ρ L a w) {i : Nat} {r : Row} (hr : rows[i]? = some r) (hdi : d.testBit i = true) (hLi : L.getD i false = false) (hlt : i < L.size) (hbe : ∀ j, r.before.testBit j = true → L.getD j false = true)
    (hdst : dstOk n r.o.dst = true) {ρ' : Rho} {v : Value} {w' : World} (hv : VR ρ' (sv i) v) (hle : ρ.le ρ') (hrel : Rel ρ' N s w') (hext : Ext ρ0 s0 ρ' s) (hbl : Below N w0 w')
    (hnb : ∀ k b, k ≠ i → nb k = some b → ρ b = none → ρ' b = none) : Inv PI P ops rows ρ0 s0 w0 N n fr0 a0 d sv nb ps fr s ρ' (L.setIfInBounds i true) (a.put r.o.dst v) w' where
  lsz := by simpa using I.lsz
  LX j hj := by
    rcases (getD_set hlt j).1 hj with h | rfl
    · exact I.LX j h
    · exact hdi
  down k q j hq hk hj := by
    refine (getD_set hlt j).2 (.inl ?_)
    rcases (getD_set hlt k).1 hk with h | rfl
    · exact I.down k q j hq h hj
    · rw [hr] at hq; cases hq; exact hbe j hj
  XR := I.XR
  downX := I.downX
  env := I.env
  real k q t hq hk hqd := by
    rcases (getD_set hlt k).1 hk with h | rfl
    · have hki : k ≠ i := fun e => by subst e; rw [h] at hLi; cases hLi
      obtain ⟨u, h1, h2⟩ := I.real k q t hq h hqd
      refine ⟨u, ?_, VR.mono hle _ _ h2⟩
      rw [put_ne (F.uniq i r k q t hr hq hki hqd)]
      exact h1
    · rw [hr] at hq; cases hq
      rw [hqd] at hdst ⊢
      have : t < a.tmps.size := by rw [I.size]; exact Nat.le_of_ble_eq_true hdst
      exact ⟨v, put_eq this, hv⟩
  rest t ht := by
    have hne : r.o.dst ≠ some t := ht i r hr ((getD_set hlt i).2 (.inr rfl))
    rw [put_ne hne]
    exact I.rest t fun k q hq hk => ht k q hq ((getD_set hlt k).2 (.inl hk))
  size := by rw [put_size]; exact I.size
  dfr := by rw [put_defers']; exact I.dfr.mono hle
  pend k q hq hk hLk := by
    obtain ⟨h1, h2⟩ := getD_set_false hlt hLk
    obtain ⟨σ, hσ, hor⟩ := I.pend k q hq hk h1
    refine ⟨σ, hσ, ?_⟩
    rcases hor with h | h | ⟨g1, g2, mk, blk, b, g3, g4, g5, g6, g7, g8⟩ | h
    · exact .inl h
    · exact .inr (.inl h)
    · exact .inr (.inr (.inl ⟨g1, g2, mk, blk, b, g3, g4, g5, hnb k b h2 g4 g6, g7, g8⟩))
    · exact .inr (.inr (.inr h))
  nbne := I.nbne
  nblt := I.nblt
  rel := hrel
  ext := hext
  below := hbl
theorem env_put {env : En} {dst : Option Tmp} {x : SV} {t : Nat} (h : (putD env dst x).get t ≠ .bad) : (dst = some t ∧ (putD env dst x).get t = x) ∨ (dst ≠ some t ∧ (putD env dst x).get t = env.get t) := by
  cases dst with
  | none => exact .inr ⟨by simp, rfl⟩
  | some u =>
    simp only [putD] at h ⊢
    by_cases e : t = u
    · subst e
      rcases En.get_set_eq env t x with hg | hg
      · exact .inl ⟨rfl, hg⟩
      · exact absurd hg h
    · exact .inr ⟨fun e' => e (by simpa using e'.symm), En.get_set_ne _ _ _ _ e⟩
def upd {α : Type} (f : Nat → α) (i : Nat) (x : α) : Nat → α := fun k => if k = i then x else f k
theorem upd_self {α : Type} (f : Nat → α) (i : Nat) (x : α) : upd f i x i = x := by simp [upd]
theorem upd_ne {α : Type} (f : Nat → α) {i k : Nat} (x : α) (h : k ≠ i) : upd f i x k = f k := by simp [upd, h]
theorem OpEnv.upd' (_I : Inv PI P ops rows ρ0 s0 w0 N n fr0 a0 d sv nb ps fr s ρ L a w) {i : Nat} (hdi : d.testBit i = false) (x : SV) {k : Nat} {q : Row} (_hq : rows[k]? = some q) (hb : ∀ j, q.before.testBit j = true → d.testBit j = true) {σ : En}
    (h : OpEnv ops rows fr0 sv k q σ) : OpEnv ops rows fr0 (upd sv i x) k q σ := by
  intro t ht hne
  rcases h t ht hne with ⟨j, qj, h1, h2, h3, h4⟩ | h
  · have hji : j ≠ i := fun e => by subst e; have := hb j h2; rw [hdi] at this; cases this
    exact .inl ⟨j, qj, h1, h2, h3, by rw [upd_ne _ _ hji]; exact h4⟩
  · exact .inr h
/-- the shadow does a row that the run may do later -/
theorem inv_plan (_F : RF ops rows) (I : Inv PI P ops rows ρ0 s0 w0 N n fr0 a0 d sv nb ps fr s ρ L a w) {i : Nat} {r : Row} (hr : rows[i]? = some r) (hdi : d.testBit i = false) (hbd : ∀ j, r.before.testBit j = true → d.testBit j = true)
    {x : SV} {nb' : Nat → Option Nat} {ps' : List Pend} {s' : St} (hps : ∀ p ∈ ps, p ∈ ps') (hnb : ∀ k, k ≠ i → nb' k = nb k) (hnb1 : ∀ b, nb' i = some b → b = s.nx ∧ s.nx < s'.nx) (hnx : s.nx ≤ s'.nx) (hkeep : ∀ b, b < s.nx → s'.h.get b = s.h.get b ∨ dim (s'.h.get b) = true) (hPI : ∀ i o σ, PI s i o σ → PI s' i o σ)
    (hrel : Rel ρ N s' w) (hext : Ext ρ0 s0 ρ s') (hpd : Pd PI P ops rows s0 fr0 (upd sv i x) nb' ps' s' ρ i r) : Inv PI P ops rows ρ0 s0 w0 N n fr0 a0 (d ||| 2 ^ i) (upd sv i x) nb' ps' (fr.put r.o.dst x) s' ρ L a w where
  lsz := I.lsz
  LX j hj := (bit_or d i j).2 (.inl (I.LX j hj))
  down := I.down
  XR j hj := by
    rcases (bit_or d i j).1 hj with h | rfl
    · exact I.XR j h
    · exact (List.getElem?_eq_some_iff.1 hr).1
  downX k q j hq hk hj := by
    refine (bit_or d i j).2 (.inl ?_)
    rcases (bit_or d i k).1 hk with h | rfl
    · exact I.downX k q j hq h hj
    · rw [hr] at hq; cases hq; exact hbd j hj
  env t ht := by
    rcases env_put ht with ⟨h1, h2⟩ | ⟨h1, h2⟩
    · exact .inl ⟨i, r, hr, (bit_or d i i).2 (.inr rfl), h1, by show (putD fr.env r.o.dst x).get t = _; rw [h2, upd_self]⟩
    · have ht' : fr.env.get t ≠ .bad := by rw [← h2]; exact ht
      rcases I.env t ht' with ⟨j, q, hq, hdj, hqd, hv⟩ | ⟨hno, hv⟩
      · have hji : j ≠ i := fun e => by subst e; rw [hdj] at hdi; cases hdi
        exact .inl ⟨j, q, hq, (bit_or d i j).2 (.inl hdj), hqd, by show (putD fr.env r.o.dst x).get t = _; rw [h2, hv, upd_ne _ _ hji]⟩
      · refine .inr ⟨fun j q hq hdj => ?_, by show (putD fr.env r.o.dst x).get t = _; rw [h2, hv]⟩
        rcases (bit_or d i j).1 hdj with h | rfl
        · exact hno j q hq h
        · rw [hr] at hq; cases hq; exact h1
  real k q t hq hk hqd := by
    have hki : k ≠ i := fun e => by subst e; have := I.LX k hk; rw [hdi] at this; cases this
    rw [upd_ne _ _ hki]
    exact I.real k q t hq hk hqd
  rest := I.rest
  size := I.size
  dfr := I.dfr
  pend k q hq hk hLk := by
    rcases (bit_or d i k).1 hk with h | rfl
    · have hki : k ≠ i := fun e => by subst e; rw [h] at hdi; cases hdi
      obtain ⟨σ, hσ, hor⟩ := I.pend k q hq h hLk
      refine ⟨σ, hσ.upd' I hdi x hq (fun j hj => I.downX k q j hq h hj), ?_⟩
      rw [upd_ne _ _ hki]
      rcases hor with h | ⟨h1, h2, h3⟩ | ⟨g1, g2, mk, blk, b, g3, g4, g5, g6, g7, g8⟩ | ⟨g1, g2, g3, g4⟩
      · exact .inl h
      · exact .inr (.inl ⟨h1, h2, hps _ h3⟩)
      · refine .inr (.inr (.inl ⟨g1, g2, mk, blk, b, g3, by rw [hnb k hki]; exact g4, g5, g6, g7, ?_⟩))
        rcases hkeep b (I.nblt k b g4).1 with hk' | hk'
        · rw [hk']; exact g8
        · exact .inr hk'
      · exact .inr (.inr (.inr ⟨g1, g2, g3, hPI _ _ _ g4⟩))
    · rw [hr] at hq; cases hq
      exact hpd
  nbne j k b hj hk := by
    by_cases e1 : j = i <;> by_cases e2 : k = i
    · rw [e1, e2]
    · subst e1
      rw [hnb k e2] at hk
      have := (hnb1 b hj).1
      have h2 := (I.nblt k b hk).1
      omega
    · subst e2
      rw [hnb j e1] at hj
      have := (hnb1 b hk).1
      have h2 := (I.nblt j b hj).1
      omega
    · rw [hnb j e1] at hj
      rw [hnb k e2] at hk
      exact I.nbne j k b hj hk
  nblt j b hj := by
    by_cases e1 : j = i
    · subst e1
      obtain ⟨h1, h2⟩ := hnb1 b hj
      exact ⟨by omega, (bit_or d j j).2 (.inr rfl)⟩
    · rw [hnb j e1] at hj
      obtain ⟨h1, h2⟩ := I.nblt j b hj
      exact ⟨by omega, (bit_or d i j).2 (.inl h2)⟩
  rel := hrel
  ext := hext
  below := I.below
end Go.Sh
