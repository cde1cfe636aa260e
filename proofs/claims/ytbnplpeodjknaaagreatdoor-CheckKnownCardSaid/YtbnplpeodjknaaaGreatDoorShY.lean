/- Part of a proof that a closed law answers true: the evaluator of the first text is sound; this text is one step of it. No condition. -/
import Derived.Test.YtbnplpeodjknaaaGreatDoorShX
import Derived.Defers
set_option linter.unusedSectionVars false
set_option linter.unusedSimpArgs false
set_option linter.unusedVariables false
namespace Go.Sh
variable [Opq]
open Go.RowKit (Below)
variable {I : Rho → World → Prop}
variable {P : Program} {E : EE} {callF : CallF}

/-! ## arguments -/
theorem bindArgs_get : ∀ (args : List SV) (i : Nat) (env : En) (t : Nat), (bindArgs args i env).get t ≠ .bad →
    (i ≤ t ∧ args[t - i]? = some ((bindArgs args i env).get t)) ∨ ((bindArgs args i env).get t = env.get t)
  | [], i, env, t, _ => .inr rfl
  | v :: vs, i, env, t, h => by
    simp only [bindArgs] at h ⊢
    rcases bindArgs_get vs (Nat.succ i) (env.set i v) t h with ⟨h1, h2⟩ | h2
    · left
      refine ⟨by omega, ?_⟩
      have : t - i = (t - (i + 1)) + 1 := by omega
      rw [this, List.getElem?_cons_succ]
      exact h2
    · by_cases e : t = i
      · subst e
        rw [h2] at h ⊢
        rcases En.get_set_eq env t v with hg | hg
        · left; rw [hg]; exact ⟨Nat.le_refl _, by simp⟩
        · exact absurd hg h
      · right; rw [h2, En.get_set_ne _ _ _ _ e]
theorem args_env {ρ : Rho} {args : List SV} {args' : List Value} (h : VRs ρ args args') (n : Nat) : EnvR ρ (bindArgs args 0 .e) { tmps := args'.toArray ++ Array.replicate (n - args'.toArray.size) undef, defers := [] } := by
  intro t ht
  rcases bindArgs_get args 0 .e t ht with ⟨_, h2⟩ | h2
  · obtain ⟨v, h3, h4⟩ := h.get _ _ h2
    rw [Nat.sub_zero] at h3
    have hlt := (List.getElem?_eq_some_iff.1 h3).1
    exact ⟨v, by rw [Array.getElem?_append_left (by simpa using hlt)]; simpa using h3, h4⟩
  · rw [h2] at ht; exact absurd (En.get_e t) ht

/-! ## results -/
theorem results_sound {ρ : Rho} {N : Bound I} {n : Nat} {s : St} {w : World} {fr : Fr} {a : Act} (hF : FrR ρ n fr a) (H : Rel ρ N s w) : ∀ (rs : List ResultVar), anyBad (resS P fr.env s rs) = false →
    ∃ vs : List Value, (rs.mapM (m := Sem) fun | .tmp t => pure (a.tmps.getD t undef) | .cell c t => do loadVar t (← asAddr (a.tmps.getD c undef))).run P w = .ok vs w ∧ VRs ρ (resS P fr.env s rs) vs
  | [], _ => ⟨[], by simp, VRs.nil⟩
  | r :: rs, h => by
    cases r with
    | tmp t =>
      simp only [resS, anyBad] at h
      cases hb : isBad (fr.env.get t) with
      | true => rw [hb] at h; simp at h
      | false =>
        rw [hb, cond_false] at h
        obtain ⟨v, h1, h2⟩ := hF.env t (isBad_false hb)
        obtain ⟨vs, h3, h4⟩ := results_sound hF H rs h
        refine ⟨v :: vs, ?_, VRs.cons h2 h4⟩
        have hv : a.tmps.getD t undef = v := by simp [h1]
        simp only [List.mapM_cons, Sem.run_bind, Sem.run_pure, Result.andThen_ok, h3, hv]
    | cell c t =>
      simp only [resS, anyBad] at h
      cases hb : isBad (loadS P s t (fr.env.get c)) with
      | true => rw [hb] at h; simp at h
      | false =>
        rw [hb, cond_false] at h
        have hne := isBad_false hb
        have hcb : fr.env.get c ≠ .bad := fun e => by rw [e] at hne; simp [loadS] at hne
        obtain ⟨u, h1, h2⟩ := hF.env c hcb
        obtain ⟨v, h5, h6⟩ := loadS_sound (P := P) H (fun _ => h2) hne
        obtain ⟨vs, h3, h4⟩ := results_sound hF H rs h
        refine ⟨v :: vs, ?_, VRs.cons h6 h4⟩
        have hv : a.tmps.getD c undef = u := by simp [h1]
        -- the address
        have hptr : ∃ b off, fr.env.get c = .ptr b off := by
          unfold loadS at hne
          split at hne
          · rename_i b off hp; exact ⟨b, off, hp⟩
          · exact absurd rfl hne
        obtain ⟨b, off, hp⟩ := hptr
        rw [hp] at h2
        simp only [VR] at h2
        obtain ⟨r1, base, e1, _, rfl⟩ := h2
        have h5' : (loadVar t ⟨r1, base + off, none⟩).run P w = .ok v w := by simpa [Instr.loadAt, Instr.sureAddr] using h5
        have hA : (asAddr (.pointer (some ⟨r1, base + off, none⟩))).run P w = .ok ⟨r1, base + off, none⟩ w := rfl
        simp only [List.mapM_cons, Sem.run_bind, hv, hA, Sem.run_pure, Result.andThen_ok, h5', h3]
theorem packR_sound {ρ : Rho} {xs : List SV} {vs : List Value} (h : VRs ρ xs vs) : VR ρ (packR xs) (if h : vs.toArray.size = 1 then vs.toArray[0] else .tuple vs.toArray) := by
  unfold packR
  split
  · rename_i x
    obtain ⟨v, rfl, hv⟩ := list1 h
    simpa using hv
  · rename_i hne
    have hl := h.len
    have : ¬ (vs.toArray.size = 1) := by
      intro e
      simp only [List.size_toArray] at e
      rw [hl] at e
      obtain ⟨x, rfl⟩ := List.length_eq_one_iff.1 e
      exact hne x rfl
    rw [dif_neg this]
    simp only [VR]
    exact ⟨vs, h, rfl⟩

/-! ## back from a call -/
theorem scal_VR {ρ ρ' : Rho} : ∀ {x : SV} {v : Value}, scal x = true → VR ρ' x v → VR ρ x v := by
  intro x v h hv
  cases x <;> simp [scal] at h <;> simpa [VR] using hv
theorem allScal_VRs {ρ ρ' : Rho} : ∀ {xs : List SV} {vs : List Value}, allScal xs = true → VRs ρ' xs vs → VRs ρ xs vs
  | [], vs, _, hv => by rw [VRs.nil_iff] at hv ⊢; exact hv
  | x :: xs, vs, h, hv => by
    simp only [allScal] at h
    cases hs : scal x with
    | false => rw [hs] at h; simp at h
    | true =>
      rw [hs, cond_true] at h
      obtain ⟨y, ys, h1, h2, rfl⟩ := hv.cons_inv
      exact VRs.cons (scal_VR hs h1) (allScal_VRs h h2)
theorem scalV_VR {ρ ρ' : Rho} {x : SV} {v : Value} (h : scalV x = true) (hv : VR ρ' x v) : VR ρ x v := by
  cases x with
  | tup vs => simp only [VR] at hv ⊢; obtain ⟨l, hl, rfl⟩ := hv; exact ⟨l, allScal_VRs h hl, rfl⟩
  | agg vs => simp only [VR] at hv ⊢; obtain ⟨l, hl, rfl⟩ := hv; exact ⟨l, allScal_VRs h hl, rfl⟩
  | _ => exact scal_VR h hv
theorem Ext.of_big {ρ ρ' : Rho} {s s' : St} (h : Ext ρ ⟨s.h, s.nx, big⟩ ρ' s') : Ext ρ s ρ' ⟨s'.h, s'.nx, minN s.lo s'.lo⟩ where
  le := h.le
  keep := h.keep
  nx := h.nx
  lo := by show minN s.lo s'.lo ≤ s.lo; rw [minN_eq]; omega
  same b hb hl := h.same b hb (by have hl' : b < minN s.lo s'.lo := hl; rw [minN_eq] at hl'; omega)
/-- nothing older was written: the old state stands -/
theorem Rel.back {ρ ρ' : Rho} {N : Bound I} {s s' : St} {w w' : World} (H : Rel ρ N s w) (H' : Rel ρ' N s' w') (hE : Ext ρ ⟨s.h, s.nx, big⟩ ρ' s') (hlo : s.nx ≤ s'.lo) (hB : RowKit.Below N w w') : Rel ρ N s w' where
  fresh := H.fresh
  live b r base e hb := by
    have hlt : b < s.nx := by
      rcases Nat.lt_or_ge b s.nx with h | h
      · exact h
      · rw [H.fresh b h] at hb; cases hb
    have h1 := H.live b r base e hb
    have h2 := H'.live b r base e (hE.le b _ hb)
    have h3 : s'.h.get b = s.h.get b := hE.same b hlt (by omega)
    rw [h3] at h2
    exact BR.back hE.le h1 h2
  bound b r base e hb := H'.bound b r base e (hE.le b _ hb)
  low b r base e hb hw := H.low b r base e hb hw
  inj := H.inj
  size := H'.size
  inv := N.stable _ _ _ _ H.inv (Rho.le_refl ρ) hB
end Go.Sh
