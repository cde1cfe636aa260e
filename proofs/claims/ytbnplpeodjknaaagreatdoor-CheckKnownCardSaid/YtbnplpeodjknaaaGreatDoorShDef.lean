/- Part of a proof that a closed law answers true: the evaluator of the first text is sound; this text is one step of it. No condition. -/
import Derived.Test.YtbnplpeodjknaaaGreatDoorShY
import Derived.Recover
import Derived.RangeFuncLeaves
set_option linter.unusedSectionVars false
set_option linter.unusedSimpArgs false
set_option linter.unusedVariables false
namespace Go.Sh
variable [Opq]
open Go.RowKit (Below)
variable {I : Rho → World → Prop}
variable {P : Program} {E : EE} {callF : CallF}

theorem enter_body {f : FuncId} {fn : Func} {c : Code} (hb : bodyOf P f = some (fn, c)) : P.funcs[f]? = some fn ∧ fn.body = some c ∧ codeOk fn.ntmps P.globals.size c = true ∧ fn.name ≠ "runtime.NumGoroutine" := by
  unfold bodyOf at hb
  split at hb
  · rename_i fn' hf
    split at hb
    · rename_i c' hbody
      cases hc : (codeOk fn'.ntmps P.globals.size c' && !(fn'.name == "runtime.NumGoroutine")) with
      | false => rw [hc] at hb; simp at hb
      | true =>
        rw [hc] at hb
        cases hb
        rw [Bool.and_eq_true, Bool.not_eq_true'] at hc
        exact ⟨hf, hbody, hc.1, by simpa using hc.2⟩
    · cases hb
  · cases hb
/-- how a frame that is left is on its way -/
def UR (ρ : Rho) (u : SV × Bool) (m : FrameMode) : Prop := (u.1 = .nili ∧ m = .returning) ∨ (isNili u.1 = false ∧ ∃ v, VR ρ u.1 v ∧ m = .panicking [{ v, recovered := u.2 }])
theorem UR.mono {ρ ρ' : Rho} (h : ρ.le ρ') {u : SV × Bool} {m : FrameMode} (hu : UR ρ u m) : UR ρ' u m := by
  rcases hu with h1 | ⟨h1, v, h2, h3⟩
  · exact .inl h1
  · exact .inr ⟨h1, v, VR.mono h _ _ h2, h3⟩
theorem isNili_eq {x : SV} (h : isNili x = true) : x = .nili := by cases x <;> first | rfl | (simp [isNili] at h)
theorem UR.settle {ρ : Rho} {u : SV × Bool} {m : FrameMode} (h : UR ρ u m) : UR ρ (settleS u) (Go.settle m) := by
  obtain ⟨x, r⟩ := u
  rcases h with ⟨h1, rfl⟩ | ⟨h1, v, h2, rfl⟩
  · simp only at h1
    subst h1
    cases r <;> exact .inl ⟨rfl, rfl⟩
  · cases r with
    | true => exact .inl ⟨rfl, rfl⟩
    | false => exact .inr ⟨h1, v, h2, rfl⟩

/-- what is asked at the end of a piece of a deferred function's code -/
def QD (ρ0 : Rho) (s0 : St) (w0 : World) (N : Bound I) (n : Nat) (kN : KD) (kX : KDX) (c0 : Frame) (cs0 : List Frame) : Exit → Act → List Frame → World → Prop
  | .normal, a, cs, w => ∃ ρ fr u m s, cs = { c0 with mode := m } :: cs0 ∧ UR ρ u m ∧ FrR ρ n fr a ∧ Rel ρ N s w ∧ Ext ρ0 s0 ρ s ∧ Below N w0 w ∧ kN fr u s = true
  | .exit i, a, cs, w => ∃ ρ fr u m s, cs = { c0 with mode := m } :: cs0 ∧ UR ρ u m ∧ FrR ρ n fr a ∧ Rel ρ N s w ∧ Ext ρ0 s0 ρ s ∧ Below N w0 w ∧ kX (.exit i) fr u s = true
  | .ret, a, cs, w => ∃ ρ fr u m s, cs = { c0 with mode := m } :: cs0 ∧ UR ρ u m ∧ FrR ρ n fr a ∧ Rel ρ N s w ∧ Ext ρ0 s0 ρ s ∧ Below N w0 w ∧ kX .ret fr u s = true
  | .panic chain, a, cs, w => ∃ ρ fr u m s x v, chain = [{ v, recovered := false }] ∧ VR ρ x v ∧ cs = { c0 with mode := m } :: cs0 ∧ UR ρ u m ∧ FrR ρ n fr a ∧ Rel ρ N s w ∧ Ext ρ0 s0 ρ s ∧ Below N w0 w ∧ kX (.panic x) fr u s = true
  | _, _, _, _ => False

/-- what is done with an operation's outcome, in a deferred function -/
theorem outRD_sound (hC : CallSound I P callF) {ρ : Rho} {N : Bound I} {s : St} {w : World} {k0 : Prop} {res : Result Next} {r : R} {o : Oper} {pos : String} {fr : Fr} {kN : KN} {kX : KX} {a : Act} {next : Act → World → Prop} {Q : Exit → Act → World → Prop}
    (H : Rel ρ N s w) (hG : Glob P.globals.size ρ) (hr : RR P ρ N s w k0 res r) (hout : outR callF o.dst pos r fr kN kX = true)
    (hnr : ∀ b args s, r ≠ .rnd b args s)
    (hnext : ∀ ρ' s' w' x v, VR ρ' x v → Rel ρ' N s' w' → Ext ρ s ρ' s' → Below N w w' → kN (fr.put o.dst x) s' = true → next (a.put o.dst v) w')
    (hpan : ∀ ρ' s' w' x v, VR ρ' x v → Rel ρ' N s' w' → Ext ρ s ρ' s' → Below N w w' → kX (.panic x) fr s' = true → Q (.panic [{ v, recovered := false }]) a w')
    (hdfr : ∀ f args (a' c' : List Value), VRs ρ args (a' ++ c') → kN (Fr.put ⟨fr.env, .fn f args :: fr.ds⟩ o.dst (.tup [])) s = true →
      next (Act.put { a with defers := { target := .fn (.func f) c'.toArray, args := a'.toArray } :: a.defers } o.dst undef) w) :
    o.upon P a next Q res := by
  cases r with
  | v x s' =>
    obtain ⟨ρ', v, w', rfl, h1, h2, h3, h4, _⟩ := hr
    exact hnext ρ' s' w' x v h1 h2 h3 h4 hout
  | skip s' =>
    obtain ⟨ρ', w', rfl, h2, h3, h4⟩ := hr
    exact hnext ρ' s' w' _ _ vrUndef h2 h3 h4 hout
  | call f args s' =>
    obtain ⟨rfl, args', h1, rfl⟩ := hr
    simp only [outR] at hout
    rcases hC.f f args s' _ _ hout ρ N w args' H hG h1 with ⟨h2, h3⟩ | ⟨v, w', h2, ρ', s1, x, h3, h4, h5, h6, h7⟩
    · rw [h2, Oper.upon_enter]
      refine Calls.mono h3 fun e w' he => ?_
      cases e with
      | returned v =>
        obtain ⟨ρ', s1, x, q1, q2, q3, q4, q5⟩ := he
        exact hnext ρ' s1 w' x v q1 q2 q3 q4 q5
      | panicked chain =>
        obtain ⟨ρ', s1, x, v, rfl, q1, q2, q3, q4, q5⟩ := he
        exact hpan ρ' s1 w' x v q1 q2 q3 q4 q5
      | outgrown => exact he.elim
    · rw [h2]
      exact hnext ρ' s1 w' x v h3 h4 h5 h6 h7
  | rnd b args s' => exact absurd rfl (hnr b args s')
  | dfr f args s' =>
    obtain ⟨rfl, a', c', h1, rfl⟩ := hr
    exact hdfr f args a' c' h1 hout
  | rcv s' => simp [outR, failB] at hout
  | pan x s' =>
    obtain ⟨rfl, v, rfl, h1⟩ := hr
    exact hpan ρ s' w x v h1 H (Ext.refl ρ s') (Below.refl N w) hout
  | fork x s1 y s2 =>
    simp only [outR] at hout
    cases hb : kN (fr.put o.dst x) s1 with
    | false => rw [hb] at hout; simp at hout
    | true =>
      rw [hb] at hout
      simp at hout
      rcases hr with hr | hr
      · obtain ⟨ρ', v, w', rfl, h1, h2, h3, h4, _⟩ := hr
        exact hnext ρ' s1 w' x v h1 h2 h3 h4 hb
      · obtain ⟨ρ', v, w', rfl, h1, h2, h3, h4, _⟩ := hr
        exact hnext ρ' s2 w' y v h1 h2 h3 h4 hout
  | bad why => simp [outR, failB] at hout

theorem evOpsD_sound (hP : PH P E) (hC : CallSound I P callF) {n : Nat} {N : Bound I} {ops : Array Oper} {kN : KD} {kX : KDX} {ρ0 : Rho} {s0 : St} {w0 : World} {c0 : Frame} {cs0 : List Frame} : ∀ (os : List Oper) (k : Nat) (fr : Fr) (u : SV × Bool) (s : St), (∀ j : Nat, os[j]? = ops[k + j]?) → os.all (operOk n P.globals.size) = true →
    evOpsD E P callF ops os fr u s kN kX = true → ∀ (ρ : Rho) (a : Act) (m : FrameMode) (w : World), UR ρ u m → FrR ρ n fr a → Rel ρ N s w → Glob P.globals.size ρ → Ext ρ0 s0 ρ s → Below N w0 w →
    wpOpsS P ops (QD ρ0 s0 w0 N n kN kX c0 cs0) ((List.range os.length).map (k + ·)) a ({ c0 with mode := m } :: cs0) w
  | [], k, fr, u, s, _, _, hev, ρ, a, m, w, hU, hF, H, hG, hE, hB => by
    simp only [evOpsD] at hev
    exact ⟨ρ, fr, u, m, s, rfl, hU, hF, H, hE, hB, hev⟩
  | o :: os, k, fr, u, s, hj, hok, hev, ρ, a, m, w, hU, hF, H, hG, hE, hB => by
    simp only [List.all_cons, Bool.and_eq_true] at hok
    have hop := hok.1
    unfold operOk at hop
    rw [Bool.and_eq_true] at hop
    have ho : ops[k]? = some o := by have := hj 0; simpa using this.symm
    have hj' : ∀ j : Nat, os[j]? = ops[k + 1 + j]? := fun j => by
      have := hj (j + 1)
      rw [List.getElem?_cons_succ] at this
      rw [this]
      congr 1
      omega
    have hlist : (List.range (o :: os).length).map (k + ·) = k :: (List.range os.length).map (k + 1 + ·) := by
      simp only [List.length_cons, List.range_succ_eq_map, List.map_cons, List.map_map, Nat.add_zero]
      congr 1
      apply List.map_congr_left
      intro j _
      simp only [Function.comp]
      omega
    rw [hlist]
    have hreal : ∀ t, t ∈ o.looksAt ops → fr.env.get t ≠ .bad → ∃ v, a.tmps[t]? = some v ∧ VR ρ (fr.env.get t) v := fun t _ ht => hF.env t ht
    have hopd := opd_of hG hop.2 hreal
    have go : ∀ (ρ' : Rho) (s' : St) (w' : World) (fr' : Fr) (a' : Act) (u' : SV × Bool) (m' : FrameMode), UR ρ' u' m' → FrR ρ' n fr' a' → Rel ρ' N s' w' → Ext ρ s ρ' s' → Below N w w' → evOpsD E P callF ops os fr' u' s' kN kX = true →
        wpOpsS P ops (QD ρ0 s0 w0 N n kN kX c0 cs0) ((List.range os.length).map (k + 1 + ·)) a' ({ c0 with mode := m' } :: cs0) w' := fun ρ' s' w' fr' a' u' m' q0 q1 q2 q3 q4 q5 =>
      evOpsD_sound hP hC os (k + 1) fr' u' s' hj' hok.2 q5 ρ' a' m' w' q0 q1 q2 (hG.mono q3.le) (hE.trans q3) (hB.trans q4)
    simp only [evOpsD] at hev
    simp only [wpOpsS, ho]
    split at hev
    · rename_i hw
      rw [wanted_sound hw hreal]
      simp only [if_true]
      have hs := exec_sound hP.eok H o hopd
      split at hev
      · -- recover
        rename_i s' hx
        rw [hx] at hs
        obtain ⟨rfl, hres⟩ := hs
        rw [hres]
        simp only
        obtain ⟨x, r⟩ := u
        rcases hU with ⟨h1, rfl⟩ | ⟨h1, v, h2, rfl⟩
        · simp only at h1
          subst h1
          have hc : (isNili (SV.nili) || r) = true := by simp [isNili]
          rw [hc, cond_true] at hev
          simp only [recoverD]
          exact go ρ s' w _ _ _ _ (.inl ⟨rfl, rfl⟩) (hF.put hop.1 (by simp [VR])) H (Ext.refl ρ s') (Below.refl N w) hev
        · simp only at h1 h2 hev
          cases r with
          | true =>
            rw [Bool.or_true, cond_true] at hev
            simp only [recoverD]
            exact go ρ s' w _ _ _ _ (.inr ⟨h1, v, h2, rfl⟩) (hF.put hop.1 (by simp [VR])) H (Ext.refl ρ s') (Below.refl N w) hev
          | false =>
            rw [h1, Bool.or_false, cond_false] at hev
            simp only [recoverD]
            exact go ρ s' w _ _ _ _ (.inr ⟨h1, v, h2, rfl⟩) (hF.put hop.1 h2) H (Ext.refl ρ s') (Below.refl N w) hev
      · simp [failB] at hev
      · simp [failB] at hev
      · rename_i hnr hnd hnrnd
        have main := outRD_sound (o := o) (a := a) (next := fun a' w' => wpOpsS P ops (QD ρ0 s0 w0 N n kN kX c0 cs0) ((List.range os.length).map (k + 1 + ·)) a' ({ c0 with mode := m } :: cs0) w') (Q := fun e a' w' => QD ρ0 s0 w0 N n kN kX c0 cs0 e a' ({ c0 with mode := m } :: cs0) w') hC H hG hs hev hnrnd
          (fun ρ' s' w' x v q1 q2 q3 q4 q5 => go ρ' s' w' _ _ _ _ (hU.mono q3.le) ((hF.mono q3.le).put hop.1 q1) q2 q3 q4 q5)
          (fun ρ' s' w' x v q1 q2 q3 q4 q5 => ⟨ρ', fr, u, m, s', x, v, rfl, q1, rfl, hU.mono q3.le, hF.mono q3.le, q2, hE.trans q3, hB.trans q4, q5⟩)
          (fun f args a' c' q1 q2 => by
            have hF' : FrR ρ n ⟨fr.env, Df.fn f args :: fr.ds⟩ { a with defers := { target := .fn (.func f) c'.toArray, args := a'.toArray } :: a.defers } := ⟨hF.env, hF.size, a', c', a.defers, q1, rfl, hF.dfr⟩
            exact go ρ s w _ _ _ _ hU (hF'.put hop.1 vrUndef) H (Ext.refl ρ s) (Below.refl N w) q2)
        split
        · rename_i w' hr
          rw [hr] at main
          exact main.elim
        · exact main
    · rename_i hw
      rw [wanted_sound hw hreal]
      simp only [Bool.false_eq_true, if_false]
      exact go ρ s w _ _ _ _ hU (hF.put hop.1 vrUndef) H (Ext.refl ρ s) (Below.refl N w) hev
    · simp [failB] at hev

theorem QD.of_QC {ρ0 ρ : Rho} {s0 s : St} {w0 w : World} {N : Bound I} {n : Nat} {kN : KD} {kX : KDX} {c0 : Frame} {cs0 : List Frame} {u : SV × Bool} {m : FrameMode} (hU : UR ρ u m) (hE : Ext ρ0 s0 ρ s) (hB : Below N w0 w) {e : Exit} {a1 : Act} {w1 : World}
    (h : QC ρ s w N n (fun fr s => kN fr u s) (fun x fr s => kX x fr u s) e a1 w1) : QD ρ0 s0 w0 N n kN kX c0 cs0 e a1 ({ c0 with mode := m } :: cs0) w1 := by
  cases e with
  | normal => obtain ⟨ρ1, fr1, s1, h1, h2, h3, h4, h5⟩ := h; exact ⟨ρ1, fr1, u, m, s1, rfl, hU.mono h3.le, h1, h2, hE.trans h3, hB.trans h4, h5⟩
  | exit i => obtain ⟨ρ1, fr1, s1, h1, h2, h3, h4, h5⟩ := h; exact ⟨ρ1, fr1, u, m, s1, rfl, hU.mono h3.le, h1, h2, hE.trans h3, hB.trans h4, h5⟩
  | ret => obtain ⟨ρ1, fr1, s1, h1, h2, h3, h4, h5⟩ := h; exact ⟨ρ1, fr1, u, m, s1, rfl, hU.mono h3.le, h1, h2, hE.trans h3, hB.trans h4, h5⟩
  | panic chain => obtain ⟨ρ1, fr1, s1, x, v, h0, h0', h1, h2, h3, h4, h5⟩ := h; exact ⟨ρ1, fr1, u, m, s1, x, v, h0, h0', rfl, hU.mono h3.le, h1, h2, hE.trans h3, hB.trans h4, h5⟩
  | goto l => exact h.elim
  | outgrown => exact h.elim
theorem QD.trans {ρ0 ρ : Rho} {s0 s : St} {w0 w : World} {N : Bound I} {n : Nat} {kN : KD} {kX : KDX} {c0 : Frame} {cs0 : List Frame} (hE : Ext ρ0 s0 ρ s) (hB : Below N w0 w) {e : Exit} {a1 : Act} {cs : List Frame} {w1 : World}
    (h : QD ρ s w N n kN kX c0 cs0 e a1 cs w1) : QD ρ0 s0 w0 N n kN kX c0 cs0 e a1 cs w1 := by
  cases e with
  | normal => obtain ⟨ρ1, fr1, u, m, s1, h0, h0', h1, h2, h3, h4, h5⟩ := h; exact ⟨ρ1, fr1, u, m, s1, h0, h0', h1, h2, hE.trans h3, hB.trans h4, h5⟩
  | exit i => obtain ⟨ρ1, fr1, u, m, s1, h0, h0', h1, h2, h3, h4, h5⟩ := h; exact ⟨ρ1, fr1, u, m, s1, h0, h0', h1, h2, hE.trans h3, hB.trans h4, h5⟩
  | ret => obtain ⟨ρ1, fr1, u, m, s1, h0, h0', h1, h2, h3, h4, h5⟩ := h; exact ⟨ρ1, fr1, u, m, s1, h0, h0', h1, h2, hE.trans h3, hB.trans h4, h5⟩
  | panic chain => obtain ⟨ρ1, fr1, u, m, s1, x, v, g0, g1, h0, h0', h1, h2, h3, h4, h5⟩ := h; exact ⟨ρ1, fr1, u, m, s1, x, v, g0, g1, h0, h0', h1, h2, hE.trans h3, hB.trans h4, h5⟩
  | goto l => exact h.elim
  | outgrown => exact h.elim
theorem wpS_mono {c : Code} {Q Q' : Exit → Act → List Frame → World → Prop} {a : Act} {cs : List Frame} {w : World} (h : c.wpS P Q a cs w) (hq : ∀ e a cs w, Q e a cs w → Q' e a cs w) : c.wpS P Q' a cs w :=
  fun b k h1 h2 => let ⟨e, a', cs', w', q, r⟩ := h b k h1 h2; ⟨e, a', cs', w', hq _ _ _ _ q, r⟩
/-- **The evaluator of a deferred function's code is sound.** -/
theorem evD_sound (hP : PH P E) (hC : CallSound I P callF) {n : Nat} {ih : IH} (hI : CodeSound I P none n ih) {N : Bound I} {c0 : Frame} {cs0 : List Frame} : ∀ (c : Code) (fr : Fr) (u : SV × Bool) (s : St) (kN : KD) (kX : KDX), evD E P ih callF c fr u s kN kX = true →
    ∀ (ρ : Rho) (a : Act) (m : FrameMode) (w : World), codeOk n P.globals.size c = true → UR ρ u m → FrR ρ n fr a → Rel ρ N s w → Glob P.globals.size ρ →
    c.wpS P (QD ρ s w N n kN kX c0 cs0) a ({ c0 with mode := m } :: cs0) w := by
  intro c
  have plain : ∀ (c : Code) (fr : Fr) (u : SV × Bool) (s : St) (kN : KD) (kX : KDX), ih c fr s (fun fr s => kN fr u s) (fun x fr s => kX x fr u s) = true →
      ∀ (ρ : Rho) (a : Act) (m : FrameMode) (w : World), codeOk n P.globals.size c = true → UR ρ u m → FrR ρ n fr a → Rel ρ N s w → Glob P.globals.size ρ → c.wpS P (QD ρ s w N n kN kX c0 cs0) a ({ c0 with mode := m } :: cs0) w :=
    fun c fr u s kN kX h ρ a m w hok hU hF H hG => wpS_of_wp (wp_mono (wpIn_wide.1 (hI c fr s _ _ h ρ N none a w trivial hok (fun h => absurd rfl h) hF H hG)) fun e a1 w1 he => QD.of_QC hU (Ext.refl ρ s) (Below.refl N w) he)
  induction c with
  | seq x y ihx ihy =>
    intro fr u s kN kX h ρ a m w hok hU hF H hG
    simp only [evD] at h
    simp only [codeOk, Bool.and_eq_true] at hok
    refine wpS_seq (wpS_mono (ihx fr u s _ _ h ρ a m w hok.1 hU hF H hG) fun e a1 cs w1 he => ?_)
    cases e with
    | normal =>
      obtain ⟨ρ1, fr1, u1, m1, s1, rfl, h0, h1, h2, h3, h4, h5⟩ := he
      exact wpS_mono (ihy fr1 u1 s1 _ _ h5 ρ1 a1 m1 w1 hok.2 h0 h1 h2 (hG.mono h3.le)) fun e a cs w q => QD.trans h3 h4 q
    | exit i => exact he
    | ret => exact he
    | panic chain => exact he
    | goto l => exact he
    | outgrown => exact he
  | region id ops draw =>
    intro fr u s kN kX h ρ a m w hok hU hF H hG
    simp only [evD] at h
    cases hc : (hasRec ops && !draw) with
    | false => rw [hc, cond_false] at h; exact plain _ fr u s kN kX h ρ a m w hok hU hF H hG
    | true =>
      rw [hc, cond_true] at h
      rw [Bool.and_eq_true, Bool.not_eq_true'] at hc
      obtain ⟨_, rfl⟩ := hc
      refine wpS_region ?_
      have := evOpsD_sound hP hC (ρ0 := ρ) (s0 := s) (w0 := w) (c0 := c0) (cs0 := cs0) ops.toList 0 fr u s (fun j => by simp) hok h ρ a m w hU hF H hG (Ext.refl ρ s) (Below.refl N w)
      simpa using this
  | _ => exact plain _

/-! ## leaving a function -/
theorem takeD_run {w : World} {r : Nat} (h : w.heap[r]? = some (.deferred (some []))) : (Instr.takeDeferred r).run P w = .ok [] (putB w r (.deferred none)) := by
  simp [Instr.takeDeferred, run_getObj w r _ h (by simp), run_setObj w r _ _ h (by simp)]
theorem callsDIn_of_wpS {f : FuncId} {fn : Func} {c : Code} {args : Array Value} {u : FrameMode} {w : World} {R : Ending → FrameMode → World → Prop}
    (hf : P.funcs[f]? = some fn) (hb : fn.body = some c)
    (h : ∀ (c₀ : Frame) (cs : List Frame), c₀.mode = u → c.wpS P (bodyPostS P fn c₀ cs R) { tmps := args ++ Array.replicate (fn.ntmps - args.size) undef, defers := [] } (c₀ :: cs) w) :
    CallsDIn (Wd none) 0 P f args u w R := by
  refine ⟨trivial, fun c₀ cs hu _ => ?_⟩
  let b : Frame := { (default : Frame) with fn := f, kind := .deferred }
  have henter : Frame.enter P f args .deferred =
      b.at { tmps := args ++ Array.replicate (fn.ntmps - args.size) undef, defers := [] } [.code c] := by
    simp [Frame.enter, Frame.at, hf, hb, b]
  obtain ⟨e, a', cs', w', hq, harr⟩ := h c₀ cs hu b [] rfl rfl
  rw [← henter] at harr
  cases e with
  | normal =>
    obtain ⟨hd, u', rfl, v, hr, hR⟩ := hq
    exact ⟨.returned v, u', w', _, hR, comesIn_wide.2 (Steps.trans harr (.one step_end)), rfl, rfl, rfl, hd, fn, hf, hr⟩
  | ret =>
    obtain ⟨hd, u', rfl, v, hr, hR⟩ := hq
    obtain ⟨todo, hs⟩ := harr
    exact ⟨.returned v, u', w', _, hR, comesIn_wide.2 hs, rfl, rfl, rfl, hd, fn, hf, hr⟩
  | panic chain =>
    obtain ⟨hd, u', rfl, hR⟩ := hq
    obtain ⟨todo, hs⟩ := harr
    exact ⟨.panicked chain, u', w', _, hR, comesIn_wide.2 hs, rfl, rfl, rfl, hd, fn, hf⟩
  | exit id => exact hq.elim
  | goto l => exact hq.elim
  | outgrown =>
    obtain ⟨u', hR⟩ := hq
    exact ⟨.outgrown, u', w', b, hR, comesIn_wide.2 (harr.resolve_left (by simp [b])), rfl, rfl, trivial⟩
theorem leave_sound (hP : PH P E) (hC : CallSound I P callF) {ih : Nat → IH} (hI : ∀ n, CodeSound I P none n (ih n)) {fn : Func} {tmps : Array Value} {R : Ending → World → Prop} {n : Nat} {N : Bound I} {ρ0 : Rho} {s0 : St} {w0 : World} {kV kP : KV} {env : En}
    (hret : ∀ (ρ : Rho) (s : St) (w : World) (x : SV) (v : Value), VR ρ x v → Rel ρ N s w → Ext ρ0 s0 ρ s → Below N w0 w → kV x s = true → R (.returned v) w)
    (hpan : ∀ (ρ : Rho) (s : St) (w : World) (x : SV) (v : Value), VR ρ x v → Rel ρ N s w → Ext ρ0 s0 ρ s → Below N w0 w → kP x s = true → R (.panicked [{ v, recovered := false }]) w)
      : ∀ (ds : List Df) (u : SV × Bool) (s : St), leaveS E P ih callF fn env ds u s kV kP = true → ∀ (ρ : Rho) (defers : List Deferred) (m : FrameMode) (w : World),
      EnvR ρ env { tmps, defers := [] } → tmps.size = n → DfR ρ ds defers → UR ρ u m → Rel ρ N s w → Glob P.globals.size ρ → Ext ρ0 s0 ρ s → Below N w0 w → LeavesInM (Wd none) 0 P fn tmps R defers m w
  | [], u, s, h, ρ, defers, m, w, hEn, hsz, hD, hU, H, hG, hE, hB => by
    have hD' : defers = [] := hD
    subst hD'
    simp only [leaveS] at h
    rcases hU with ⟨h1, rfl⟩ | ⟨h1, v, h2, rfl⟩
    · have h0 : isNili u.1 = true := by rw [h1]; rfl
      rw [h0, cond_true] at h
      cases hab : anyBad (resS P env s fn.results.toList) with
      | true => rw [hab] at h; simp [failB] at h
      | false =>
        rw [hab, cond_false] at h
        have hF : FrR ρ n ⟨env, []⟩ { tmps, defers := [] } := ⟨hEn, hsz, rfl⟩
        obtain ⟨vs, r1, r2⟩ := results_sound (P := P) hF H fn.results.toList hab
        refine ⟨_, ?_, hret ρ s w _ _ (packR_sound r2) H hE hB h⟩
        simp only [results, Sem.run_bind]
        rw [Array.mapM_eq_mapM_toList, Sem.run_map]
        have fin : ∀ (r : Result (List Value)), r = .ok vs w → ((r.andThen fun a w' => Result.ok a.toArray w').andThen fun a w' => Result.ok (if h : a.size = 1 then a[0] else Value.tuple a) w') = .ok (if h : vs.toArray.size = 1 then vs.toArray[0] else .tuple vs.toArray) w := by
          rintro _ rfl; rfl
        exact fin _ r1
    · rw [h1, cond_false] at h
      cases hr : u.2 with
      | true => rw [hr] at h; simp [failB] at h
      | false =>
        rw [hr, cond_false] at h
        exact hpan ρ s w _ _ h2 H hE hB h
  | .mark b :: ds, u, s, h, ρ, defers, m, w, hEn, hsz, hD, hU, H, hG, hE, hB => by
    obtain ⟨r, base, e, ds', hb, rfl, hD'⟩ := hD
    simp only [leaveS] at h
    cases hdm : isDm (s.h.get b) with
    | false => rw [hdm] at h; simp [failB] at h
    | true =>
      rw [hdm, cond_true] at h
      have hg : s.h.get b = .dm := by
        cases hq : s.h.get b <;> rw [hq] at hdm <;> first | rfl | (simp [isDm] at hdm)
      have hL := H.live _ _ _ _ hb
      rw [hg] at hL
      have hL' : w.heap[r]? = some (.deferred (some [])) := hL
      have hw : writable (s.h.get b) = true := by rw [hg]; rfl
      have hm : m ≠ .run := by rcases hU with ⟨_, rfl⟩ | ⟨_, v, _, rfl⟩ <;> simp
      refine ⟨hm, .inl ⟨r, _, rfl, takeD_run hL', ?_⟩⟩
      exact leave_sound hP hC hI hret hpan ds u (s.put b .none) h ρ ds' m _ hEn hsz hD' hU (H.put hb hw (by simp [BR])) hG (hE.trans (Ext.put H hb .none)) (hB.trans (Below.putB (H.low _ _ _ _ hb hw)))
  | .fn g ga :: ds, u, s, h, ρ, defers, m, w, hEn, hsz, hD, hU, H, hG, hE, hB => by
    obtain ⟨a', c', ds', hv, rfl, hD'⟩ := hD
    simp only [leaveS] at h
    split at h
    · rename_i gn c hb
      cases hn : Nat.ble ga.length gn.ntmps with
      | false => rw [hn] at h; simp [failB] at h
      | true =>
        rw [hn, cond_true] at h
        have hn' := Nat.le_of_ble_eq_true hn
        have hent := enter_body hb
        obtain ⟨hf, hbody, hok, hname⟩ := hent
        have hm : m ≠ .run := by rcases hU with ⟨_, rfl⟩ | ⟨_, v, _, rfl⟩ <;> simp
        have hinv : (invoke (.fn (.func g) c'.toArray) a'.toArray).run P w = .ok (.enter g (a'.toArray ++ c'.toArray)) w := by
          simp [invoke, callFunc, hf, hname, hbody]
        refine ⟨hm, .inr ⟨(fun h => by cases h), _, _, _, _, rfl, hinv, fun _ _ => trivial, ?_⟩⟩
        have harr : a'.toArray ++ c'.toArray = (a' ++ c').toArray := by simp
        rw [harr]
        refine CallsDIn.mono (callsDIn_of_wpS hf hbody (R := fun e u' w' => ∃ (v : Value) (ρ2 : Rho) (u2 : SV × Bool) (s2 : St), e = .returned v ∧ UR ρ2 u2 u' ∧ Rel ρ2 N s2 w' ∧ Ext ρ s ρ2 s2 ∧ Below N w w' ∧ leaveS E P ih callF fn env ds (settleS u2) s2 kV kP = true) fun c0 cs hc0 => ?_) fun e u' w' he => ?_
        · have hl := hv.len
          have hF : FrR ρ gn.ntmps ⟨bindArgs ga 0 .e, []⟩ { tmps := (a' ++ c').toArray ++ Array.replicate (gn.ntmps - (a' ++ c').toArray.size) undef, defers := [] } :=
            ⟨args_env hv gn.ntmps, by simp at hl ⊢; omega, rfl⟩
          have hcc : c0 :: cs = { c0 with mode := m } :: cs := by subst hc0; rfl
          rw [hcc]
          refine wpS_mono (evD_sound hP hC (hI gn.ntmps) (c0 := c0) (cs0 := cs) c _ u s _ _ h ρ _ m w hok hU hF H hG) fun e a1 cs1 w1 q => ?_
          have fin : ∀ (ρ2 : Rho) (fr2 : Fr) (u2 : SV × Bool) (m2 : FrameMode) (s2 : St), cs1 = { c0 with mode := m2 } :: cs → UR ρ2 u2 m2 → FrR ρ2 gn.ntmps fr2 a1 → Rel ρ2 N s2 w1 → Ext ρ s ρ2 s2 → Below N w w1 →
              doneD P gn (fun u s => leaveS E P ih callF fn env ds u s kV kP) fr2 u2 s2 = true →
              a1.defers = [] ∧ ∃ u', cs1 = { c0 with mode := u' } :: cs ∧ ∃ v, (results gn a1.tmps).run P w1 = .ok v w1 ∧ ∃ (v' : Value) (ρ2 : Rho) (u2 : SV × Bool) (s2 : St), Ending.returned v = .returned v' ∧ UR ρ2 u2 u' ∧ Rel ρ2 N s2 w1 ∧ Ext ρ s ρ2 s2 ∧ Below N w w1 ∧ leaveS E P ih callF fn env ds (settleS u2) s2 kV kP = true := by
            intro ρ2 fr2 u2 m2 s2 q0 q1 q2 q3 q4 q5 q6
            unfold doneD at q6
            cases hc : (noDefers fr2.ds && !(anyBad (resS P fr2.env s2 gn.results.toList))) with
            | false => rw [hc] at q6; simp [failB] at q6
            | true =>
              rw [hc, cond_true] at q6
              rw [Bool.and_eq_true, Bool.not_eq_true'] at hc
              have hds : fr2.ds = [] := by
                cases hq : fr2.ds with
                | nil => rfl
                | cons x y => rw [hq] at hc; simp [noDefers] at hc
              have hdd := q2.dfr
              rw [hds] at hdd
              obtain ⟨vs, r1, r2⟩ := results_sound (P := P) q2 q3 gn.results.toList hc.2
              refine ⟨hdd, m2, q0, (if h : vs.toArray.size = 1 then vs.toArray[0] else .tuple vs.toArray), ?_, _, ρ2, u2, s2, rfl, q1, q3, q4, q5, q6⟩
              simp only [results, Sem.run_bind]
              rw [Array.mapM_eq_mapM_toList, Sem.run_map]
              have fin : ∀ (r : Result (List Value)), r = .ok vs w1 → ((r.andThen fun a w' => Result.ok a.toArray w').andThen fun a w' => Result.ok (if h : a.size = 1 then a[0] else Value.tuple a) w') = .ok (if h : vs.toArray.size = 1 then vs.toArray[0] else .tuple vs.toArray) w1 := by
                rintro _ rfl; rfl
              exact fin _ r1
          cases e with
          | normal => obtain ⟨ρ2, fr2, u2, m2, s2, q0, q1, q2, q3, q4, q5, q6⟩ := q; exact fin ρ2 fr2 u2 m2 s2 q0 q1 q2 q3 q4 q5 q6
          | ret => obtain ⟨ρ2, fr2, u2, m2, s2, q0, q1, q2, q3, q4, q5, q6⟩ := q; exact fin ρ2 fr2 u2 m2 s2 q0 q1 q2 q3 q4 q5 q6
          | exit i => obtain ⟨ρ2, fr2, u2, m2, s2, q0, q1, q2, q3, q4, q5, q6⟩ := q; simp [doneX, failB] at q6
          | panic chain => obtain ⟨ρ2, fr2, u2, m2, s2, x, v, _, _, q0, q1, q2, q3, q4, q5, q6⟩ := q; simp [doneX, failB] at q6
          | goto l => exact q.elim
          | outgrown => exact q.elim
        · obtain ⟨v, ρ2, u2, s2, rfl, q1, q2, q3, q4, q5⟩ := he
          exact leave_sound hP hC hI hret hpan ds (settleS u2) s2 q5 ρ2 ds' (Go.settle u') w' (hEn.mono q3.le) hsz (hD'.mono q3.le) q1.settle q2 (hG.mono q3.le) (hE.trans q3) (hB.trans q4)
    · simp [failB] at h
end Go.Sh
