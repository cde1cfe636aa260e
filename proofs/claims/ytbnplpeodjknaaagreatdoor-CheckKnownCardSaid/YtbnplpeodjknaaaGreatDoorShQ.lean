/- Part of a proof that a closed law answers true: the evaluator of the first text is sound; this text is one step of it. No condition. -/
import Derived.Test.YtbnplpeodjknaaaGreatDoorShP
import Derived.RangeFuncLeaves
import Derived.OrdersIn
set_option linter.unusedSectionVars false
set_option linter.unusedSimpArgs false
set_option linter.unusedVariables false
namespace Go.Sh
variable [Opq]
open Go.RowKit (Below)
variable {I : Rho → World → Prop}

/-! ## ids that are not born yet -/
theorem Rel.prep {ρ : Rho} {N : Bound I} {s : St} {w : World} (H : Rel ρ N s w) (blk : SBlk) : Rel ρ N (s.new blk) w where
  fresh b hb := H.fresh b (Nat.le_of_succ_le hb)
  live b r base e hb := by
    have hne : b ≠ s.nx := fun h => by have := H.fresh s.nx (Nat.le_refl _); rw [← h, hb] at this; cases this
    have : (s.new blk).h.get b = s.h.get b := Hp.get_set_ne _ _ _ _ hne
    rw [this]; exact H.live _ _ _ _ hb
  bound := H.bound
  low b r base e hb hw := by
    have hne : b ≠ s.nx := fun h => by have := H.fresh s.nx (Nat.le_refl _); rw [← h, hb] at this; cases this
    have : (s.new blk).h.get b = s.h.get b := Hp.get_set_ne _ _ _ _ hne
    rw [this] at hw; exact H.low _ _ _ _ hb hw
  inj b1 b2 r x1 y1 x2 y2 h1 h2 n1 n2 := by
    have key : ∀ b x y, ρ b = some (r, x, y) → (s.new blk).h.get b = s.h.get b := fun b x y hb =>
      Hp.get_set_ne _ _ _ _ (fun h => by have := H.fresh s.nx (Nat.le_refl _); rw [← h, hb] at this; cases this)
    rw [key _ _ _ h1] at n1
    rw [key _ _ _ h2] at n2
    exact H.inj _ _ _ _ _ _ _ h1 h2 n1 n2
  size := H.size
  inv := H.inv
theorem Ext.prep {ρ : Rho} {N : Bound I} {s : St} {w : World} (_H : Rel ρ N s w) (blk : SBlk) : Ext ρ s ρ (s.new blk) where
  le := Rho.le_refl ρ
  keep b hb hn := ⟨hn, Hp.get_set_ne _ _ _ _ (by omega)⟩
  nx := Nat.le_succ _
  lo := Nat.le_refl _
  same b hb _ := Hp.get_set_ne _ _ _ _ (by omega)
/-- a block of which nothing is said -/
def dim : SBlk → Bool
  | .none => true
  | .mapp _ => true
  | _ => false
theorem BR.dim {ρ : Rho} {base e : Nat} {blk : SBlk} {o : Option Obj} (h : dim blk = true) : BR ρ base e blk o := by
  cases blk <;> simp [Sh.dim] at h <;> simp [BR]
theorem Rel.birth {ρ : Rho} {N : Bound I} {s : St} {w : World} (H : Rel ρ N s w) {b : Nat} {o : Obj} {blk : SBlk} {e : Nat} (hn : ρ b = none) (hlt : b < s.nx) (hg : s.h.get b = blk ∨ dim (s.h.get b) = true) (hB : BR ρ 0 e blk (some o)) :
    Rel (ρ.add b (w.heap.size, 0, e)) N s (newB w o) where
  fresh b' hb' := by rw [Rho.add_ne _ _ (by omega)]; exact H.fresh b' hb'
  live b' r base' e' hb' := by
    have hle := Rho.le_add (x := (w.heap.size, 0, e)) hn
    rw [newB_get]
    by_cases hbb : b' = b
    · subst hbb
      rw [Rho.add_self] at hb'; cases hb'
      rw [if_pos rfl]
      rcases hg with hg | hg
      · rw [hg]; exact hB.mono hle
      · exact BR.dim hg
    · rw [Rho.add_ne _ _ hbb] at hb'
      have hlt' := H.bound _ _ _ _ hb'
      rw [if_neg (by omega)]
      exact (H.live _ _ _ _ hb').mono hle
  bound b' r base' e' hb' := by
    have hs : (newB w o).heap.size = w.heap.size + 1 := by simp [newB]
    by_cases hbb : b' = b
    · subst hbb; rw [Rho.add_self] at hb'; cases hb'; omega
    · rw [Rho.add_ne _ _ hbb] at hb'; have := H.bound _ _ _ _ hb'; omega
  low b' r base' e' hb' hw := by
    by_cases hbb : b' = b
    · subst hbb; rw [Rho.add_self] at hb'; cases hb'; exact H.size
    · rw [Rho.add_ne _ _ hbb] at hb'; exact H.low _ _ _ _ hb' hw
  inj b1 b2 r x1 y1 x2 y2 h1 h2 n1 n2 := by
    by_cases e1 : b1 = b <;> by_cases e2 : b2 = b
    · rw [e1, e2]
    · subst e1; rw [Rho.add_self] at h1; cases h1; rw [Rho.add_ne _ _ e2] at h2; exact absurd (H.bound _ _ _ _ h2) (by omega)
    · subst e2; rw [Rho.add_self] at h2; cases h2; rw [Rho.add_ne _ _ e1] at h1; exact absurd (H.bound _ _ _ _ h1) (by omega)
    · rw [Rho.add_ne _ _ e1] at h1; rw [Rho.add_ne _ _ e2] at h2
      exact H.inj _ _ _ _ _ _ _ h1 h2 n1 n2
  size := by have := H.size; simp [newB]; omega
  inv := N.stable _ _ _ _ H.inv (Rho.le_add hn) (Below.newB H.size)
/-- a birth, seen from a state at which the id was not yet given -/
theorem Ext.birth {ρ0 ρ : Rho} {s0 s : St} (h : Ext ρ0 s0 ρ s) {b : Nat} (hb : s0.nx ≤ b) (hn : ρ b = none) (x : Nat × Nat × Nat) : Ext ρ0 s0 (ρ.add b x) s where
  le := Rho.le_trans h.le (Rho.le_add hn)
  keep b' hb' hn' := by
    obtain ⟨h1, h2⟩ := h.keep b' hb' hn'
    exact ⟨by rw [Rho.add_ne _ _ (by omega)]; exact h1, h2⟩
  nx := h.nx
  lo := h.lo
  same := h.same

/-! ## frames -/
def DfR (ρ : Rho) : List Df → List Deferred → Prop
  | [], ds => ds = []
  | .fn f args :: xs, ds => ∃ (a' c' : List Value) (ds' : List Deferred), VRs ρ args (a' ++ c') ∧ ds = { target := .fn (.func f) c'.toArray, args := a'.toArray } :: ds' ∧ DfR ρ xs ds'
  | .mark b :: xs, ds => ∃ (r base e : Nat) (ds' : List Deferred), ρ b = some (r, base, e) ∧ ds = { target := .collected r, args := #[] } :: ds' ∧ DfR ρ xs ds'
theorem DfR.mono {ρ ρ' : Rho} (h : ρ.le ρ') : ∀ {xs : List Df} {ds : List Deferred}, DfR ρ xs ds → DfR ρ' xs ds
  | [], _, hd => hd
  | .fn f args :: xs, ds, hd => by
    obtain ⟨a', c', ds', h1, h2, h3⟩ := hd
    exact ⟨a', c', ds', VRs.mono h _ _ h1, h2, DfR.mono h h3⟩
  | .mark b :: xs, ds, hd => by
    obtain ⟨r, base, e, ds', h1, h2, h3⟩ := hd
    exact ⟨r, base, e, ds', h _ _ h1, h2, DfR.mono h h3⟩
/-- no fence; rounds: the loop in whose round a frame stands -/
def Wd (ro : Option Nat) : Fence := { fn := fun _ => True, depth := none, alive := false, round := ro }
theorem Wd.callsIn {ro : Option Nat} {n : Nat} {P : Program} {f : FuncId} {args : Array Value} {w : World} {R : Ending → World → Prop} (h : Calls P f args w R) : CallsIn (Wd ro) n P f args w R :=
  (callsIn_wide (n := n)).2 h
theorem Wd.calls {ro : Option Nat} {n : Nat} {P : Program} {f : FuncId} {args : Array Value} {w : World} {R : Ending → World → Prop} (h : CallsIn (Wd ro) n P f args w R) : Calls P f args w R :=
  (callsIn_wide (n := n)).1 h
structure FrR (ρ : Rho) (n : Nat) (fr : Fr) (a : Act) : Prop where
  env : EnvR ρ fr.env a
  size : a.tmps.size = n
  dfr : DfR ρ fr.ds a.defers
/-- what is asked at the end of a piece of code -/
def QC (ρ0 : Rho) (s0 : St) (w0 : World) (N : Bound I) (n : Nat) (kN : KN) (kX : KX) : Exit → Act → World → Prop
  | .normal, a, w => ∃ ρ fr s, FrR ρ n fr a ∧ Rel ρ N s w ∧ Ext ρ0 s0 ρ s ∧ Below N w0 w ∧ kN fr s = true
  | .exit i, a, w => ∃ ρ fr s, FrR ρ n fr a ∧ Rel ρ N s w ∧ Ext ρ0 s0 ρ s ∧ Below N w0 w ∧ kX (.exit i) fr s = true
  | .ret, a, w => ∃ ρ fr s, FrR ρ n fr a ∧ Rel ρ N s w ∧ Ext ρ0 s0 ρ s ∧ Below N w0 w ∧ kX .ret fr s = true
  | .panic chain, a, w => ∃ ρ fr s x v, chain = [{ v, recovered := false }] ∧ VR ρ x v ∧ FrR ρ n fr a ∧ Rel ρ N s w ∧ Ext ρ0 s0 ρ s ∧ Below N w0 w ∧ kX (.panic x) fr s = true
  | _, _, _ => False
/-- what is asked of a call's outcome -/
def QV (ρ0 : Rho) (s0 : St) (w0 : World) (N : Bound I) (kV kP : KV) : Ending → World → Prop
  | .returned v, w => ∃ ρ s x, VR ρ x v ∧ Rel ρ N s w ∧ Ext ρ0 s0 ρ s ∧ Below N w0 w ∧ kV x s = true
  | .panicked chain, w => ∃ ρ s x v, chain = [{ v, recovered := false }] ∧ VR ρ x v ∧ Rel ρ N s w ∧ Ext ρ0 s0 ρ s ∧ Below N w0 w ∧ kP x s = true
  | .outgrown, _ => False
/-- the evaluator of calls is sound: of a function that has a body, or of an extern; of a round -/
structure CallSound (I : Rho → World → Prop) (P : Program) (callF : CallF) : Prop where
  f : ∀ (f : FuncId) (args : List SV) (s : St) (kV kP : KV), callF.f f args s kV kP = true →
    ∀ (ρ : Rho) (N : Bound I) (w : World) (args' : List Value), Rel ρ N s w → Glob P.globals.size ρ → VRs ρ args args' →
      ((callFunc f args'.toArray).run P w = .ok (.enter f args'.toArray) w ∧ Calls P f args'.toArray w (QV ρ s w N kV kP)) ∨
      (∃ v w', (callFunc f args'.toArray).run P w = .ok (.value v) w' ∧ QV ρ s w N kV kP (.returned v) w')
  r : ∀ (b : Nat) (args : List SV) (s : St) (kV kP : KV), callF.r b args s kV kP = true →
    ∀ (ρ : Rho) (N : Bound I) (w : World) (args' : List Value) (r base e : Nat), Rel ρ N s w → Glob P.globals.size ρ → VRs ρ args args' → ρ b = some (r, base, e) →
      ∃ (fn : FuncId) (tmps : Array Value) (assign body : Code), (Instr.yield r args'.toArray).run P w = .ok (.round r fn tmps assign body) w ∧ ∀ ro, RoundIn (Wd ro) 0 P r fn tmps assign body w (QV ρ s w N kV kP)

/-! ## same values -/
theorem kind1_exec (E : EE) {op : Op} (h : kindOp op = 1) (P : Program) (env : En) (s : St) : exec E op P env s = newR (mkA op P env) s := by
  cases op <;> simp [kindOp] at h <;> first | rfl | skip
  rename_i c
  obtain ⟨callee, args, ts⟩ := c
  cases callee with
  | builtin b => cases b <;> simp at h
  | value f => simp at h
  | invoke r m => simp at h
end Go.Sh
