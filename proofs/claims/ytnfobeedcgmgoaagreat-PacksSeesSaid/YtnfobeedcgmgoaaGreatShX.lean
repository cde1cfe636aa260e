/- Part of a proof that a closed law answers true: the evaluator of the first text is sound; this text is one step of it. No condition. -/
import Derived.Test.YtnfobeedcgmgoaaGreatShW
import Derived.LoopN
import Derived.Scope
namespace Go.Sh
open Go.RowKit (Below)
variable {I : Rho → World → Prop}
variable {P : Program} {E : TypeId → Bool} {callF : CallF}

theorem QC.trans {ρ ρ' : Rho} {s s' : St} {w w' : World} {N : Bound I} {n : Nat} {kN : KN} {kX : KX} (hE : Ext ρ s ρ' s') (hB : Below N w w') {e : Exit} {a1 : Act} {w1 : World} (h : QC ρ' s' w' N n kN kX e a1 w1) : QC ρ s w N n kN kX e a1 w1 := by
  cases e with
  | normal => obtain ⟨ρ1, fr1, s1, h1, h2, h3, h4, h5⟩ := h; exact ⟨ρ1, fr1, s1, h1, h2, hE.trans h3, hB.trans h4, h5⟩
  | exit i => obtain ⟨ρ1, fr1, s1, h1, h2, h3, h4, h5⟩ := h; exact ⟨ρ1, fr1, s1, h1, h2, hE.trans h3, hB.trans h4, h5⟩
  | ret => obtain ⟨ρ1, fr1, s1, h1, h2, h3, h4, h5⟩ := h; exact ⟨ρ1, fr1, s1, h1, h2, hE.trans h3, hB.trans h4, h5⟩
  | panic chain => obtain ⟨ρ1, fr1, s1, x, v, h0, h0', h1, h2, h3, h4, h5⟩ := h; exact ⟨ρ1, fr1, s1, x, v, h0, h0', h1, h2, hE.trans h3, hB.trans h4, h5⟩
  | goto l => exact h.elim
  | outgrown => exact h.elim
theorem FrR.mono {ρ ρ' : Rho} (h : ρ.le ρ') {n : Nat} {fr : Fr} {a : Act} (hF : FrR ρ n fr a) : FrR ρ' n fr a := ⟨hF.env.mono h, hF.size, hF.dfr.mono h⟩
theorem FrR.put {ρ : Rho} {n : Nat} {fr : Fr} {a : Act} (hF : FrR ρ n fr a) {dst : Option Tmp} (hd : dstOk n dst = true) {x : SV} {v : Value} (hv : VR ρ x v) : FrR ρ n (fr.put dst x) (a.put dst v) := by
  refine ⟨fun t ht => ?_, by rw [put_size]; exact hF.size, by rw [put_defers']; exact hF.dfr⟩
  rcases env_put ht with ⟨h1, h2⟩ | ⟨h1, h2⟩
  · subst h1
    have : t < a.tmps.size := by rw [hF.size]; exact Nat.le_of_ble_eq_true hd
    exact ⟨v, put_eq this, by show VR ρ ((putD fr.env (some t) x).get t) v; rw [h2]; exact hv⟩
  · have ht' : fr.env.get t ≠ .bad := by rw [← h2]; exact ht
    obtain ⟨u, h3, h4⟩ := hF.env t ht'
    exact ⟨u, by rw [put_ne h1]; exact h3, by show VR ρ ((putD fr.env dst x).get t) u; rw [h2]; exact h4⟩
/-- the operations of a region, one after the other -/
theorem evOps_sound (hP : PH P E) (hC : CallSound I P callF) {n : Nat} {N : Bound I} {ops : Array Oper} {kN : KN} {kX : KX} {ρ0 : Rho} {s0 : St} {w0 : World} : ∀ (os : List Oper) (k : Nat) (fr : Fr) (s : St), (∀ j : Nat, os[j]? = ops[k + j]?) → os.all (operOk n P.globals.size) = true →
    evOps E P callF ops os fr s kN kX = true → ∀ (ρ : Rho) (a : Act) (w : World), FrR ρ n fr a → Rel ρ N s w → Glob P.globals.size ρ → Ext ρ0 s0 ρ s → Below N w0 w →
    wpOps P ops (QC ρ0 s0 w0 N n kN kX) ((List.range os.length).map (k + ·)) a w
  | [], k, fr, s, _, _, hev, ρ, a, w, hF, H, hG, hE, hB => by
    simp only [evOps] at hev
    exact ⟨ρ, fr, s, hF, H, hE, hB, hev⟩
  | o :: os, k, fr, s, hj, hok, hev, ρ, a, w, hF, H, hG, hE, hB => by
    simp only [List.all_cons, Bool.and_eq_true] at hok
    have hop := hok.1
    unfold operOk at hop
    rw [Bool.and_eq_true] at hop
    have ho : ops[k]? = some o := by have := hj 0; simpa using this.symm
    have hj' : ∀ j : Nat, os[j]? = ops[k + 1 + j]? := fun j => by
      have := hj (j + 1)
      rw [List.getElem?_cons_succ] at this
      rw [this]
      congr 1
      omega
    have hlist : (List.range (o :: os).length).map (k + ·) = k :: (List.range os.length).map (k + 1 + ·) := by
      simp only [List.length_cons, List.range_succ_eq_map, List.map_cons, List.map_map, Nat.add_zero]
      congr 1
      apply List.map_congr_left
      intro j _
      simp only [Function.comp]
      omega
    rw [hlist, wpOps_cons]
    have hreal : ∀ t, t ∈ o.looksAt ops → fr.env.get t ≠ .bad → ∃ v, a.tmps[t]? = some v ∧ VR ρ (fr.env.get t) v := fun t _ ht => hF.env t ht
    have hopd := opd_of hG hop.2 hreal
    have go : ∀ (ρ' : Rho) (s' : St) (w' : World) (fr' : Fr) (a' : Act), FrR ρ' n fr' a' → Rel ρ' N s' w' → Ext ρ s ρ' s' → Below N w w' → evOps E P callF ops os fr' s' kN kX = true →
        wpOps P ops (QC ρ0 s0 w0 N n kN kX) ((List.range os.length).map (k + 1 + ·)) a' w' := fun ρ' s' w' fr' a' q1 q2 q3 q4 q5 =>
      evOps_sound hP hC os (k + 1) fr' s' hj' hok.2 q5 ρ' a' w' q1 q2 (hG.mono q3.le) (hE.trans q3) (hB.trans q4)
    simp only [evOps] at hev
    unfold wpOp
    simp only [ho]
    split at hev
    · rename_i hw
      rw [wanted_sound hw hreal]
      simp only [if_true]
      left
      have hs := exec_sound hP.eok H o hopd
      unfold Oper.wp
      refine outR_sound hC H hG hs hev ?_ ?_ ?_
      · intro ρ' s' w' x v q1 q2 q3 q4 q5
        exact go ρ' s' w' _ _ ((hF.mono q3.le).put hop.1 q1) q2 q3 q4 q5
      · intro ρ' s' w' x v q1 q2 q3 q4 q5
        exact ⟨ρ', fr, s', x, v, rfl, q1, hF.mono q3.le, q2, hE.trans q3, hB.trans q4, q5⟩
      · intro f args a' c' q1 q2
        have hF' : FrR ρ n ⟨fr.env, (f, args) :: fr.ds⟩ { a with defers := { target := .fn (.func f) c'.toArray, args := a'.toArray } :: a.defers } := ⟨hF.env, hF.size, a', c', a.defers, q1, rfl, hF.dfr⟩
        exact go ρ s w _ _ (hF'.put hop.1 vrUndef) H (Ext.refl ρ s) (Below.refl N w) q2
    · rename_i hw
      rw [wanted_sound hw hreal]
      simp only [Bool.false_eq_true, if_false]
      exact go ρ s w _ _ (hF.put hop.1 vrUndef) H (Ext.refl ρ s) (Below.refl N w) hev
    · simp [failB] at hev

/-! ## code -/
/-- an evaluator of code is sound -/
def CodeSound (I : Rho → World → Prop) (P : Program) (ih : IH) : Prop := ∀ (c : Code) (fr : Fr) (s : St) (kN : KN) (kX : KX), ih c fr s kN kX = true →
  ∀ (ρ : Rho) (N : Bound I) (n : Nat) (a : Act) (w : World), codeOk n P.globals.size c = true → FrR ρ n fr a → Rel ρ N s w → Glob P.globals.size ρ → c.wp P (QC ρ s w N n kN kX) a w
/-- loops, by rounds -/
def LoopSound (I : Rho → World → Prop) (P : Program) (ih : IH) : Prop := ∀ (c : Code) (fr : Fr) (s : St) (kN : KN) (kX : KX), ih (.loop c) fr s kN kX = true →
  ∀ (ρ : Rho) (N : Bound I) (n : Nat) (a : Act) (w : World), codeOk n P.globals.size c = true → FrR ρ n fr a → Rel ρ N s w → Glob P.globals.size ρ → ∃ m, Code.rounds P c (QC ρ s w N n kN kX) m a w
theorem rounds_mono {c : Code} {Q Q' : Exit → Act → World → Prop} (h : ∀ e a w, Q e a w → Q' e a w) : ∀ (m : Nat) (a : Act) (w : World), Code.rounds P c Q m a w → Code.rounds P c Q' m a w
  | 0, a, w, hr => hr.elim
  | m + 1, a, w, hr => by
    have hr' : c.wp P (Exit.then (Code.rounds P c Q m) Q) a w := hr
    show c.wp P (Exit.then (Code.rounds P c Q' m) Q') a w
    refine wp_mono hr' fun e a w he => ?_
    cases e with
    | normal => exact rounds_mono h m a w he
    | exit i => exact h _ _ _ he
    | ret => exact h _ _ _ he
    | panic chain => exact h _ _ _ he
    | goto l => exact h _ _ _ he
    | outgrown => exact h _ _ _ he
theorem rounds_more {c : Code} {Q : Exit → Act → World → Prop} : ∀ (m k : Nat) (a : Act) (w : World), m ≤ k → Code.rounds P c Q m a w → Code.rounds P c Q k a w
  | 0, k, a, w, _, hr => hr.elim
  | m + 1, 0, a, w, h, hr => by omega
  | m + 1, k + 1, a, w, h, hr => by
    have hr' : c.wp P (Exit.then (Code.rounds P c Q m) Q) a w := hr
    show c.wp P (Exit.then (Code.rounds P c Q k) Q) a w
    refine wp_mono hr' fun e a w he => ?_
    cases e with
    | normal => exact rounds_more m k a w (by omega) he
    | exit i => exact he
    | ret => exact he
    | panic chain => exact he
    | goto l => exact he
    | outgrown => exact he
theorem code_step (hM : P.follows .mixedOrders = true) (hP : PH P E) (hC : CallSound I P callF) {ih : IH} (hI : CodeSound I P ih) {m : Nat} (hL : ∀ (c : Code) (fr : Fr) (s : St) (kN : KN) (kX : KX), ih (.loop c) fr s kN kX = true →
      ∀ (ρ : Rho) (N : Bound I) (n : Nat) (a : Act) (w : World), codeOk n P.globals.size c = true → FrR ρ n fr a → Rel ρ N s w → Glob P.globals.size ρ → Code.rounds P c (QC ρ s w N n kN kX) m a w) :
    CodeSound I P (fun c fr s kN kX => stepC E c P ih callF fr s kN kX) ∧ (∀ (c : Code) (fr : Fr) (s : St) (kN : KN) (kX : KX), stepC E (.loop c) P ih callF fr s kN kX = true →
      ∀ (ρ : Rho) (N : Bound I) (n : Nat) (a : Act) (w : World), codeOk n P.globals.size c = true → FrR ρ n fr a → Rel ρ N s w → Glob P.globals.size ρ → Code.rounds P c (QC ρ s w N n kN kX) (m + 1) a w) := by
  have hloop : ∀ (c : Code) (fr : Fr) (s : St) (kN : KN) (kX : KX), stepC E (.loop c) P ih callF fr s kN kX = true →
      ∀ (ρ : Rho) (N : Bound I) (n : Nat) (a : Act) (w : World), codeOk n P.globals.size c = true → FrR ρ n fr a → Rel ρ N s w → Glob P.globals.size ρ → Code.rounds P c (QC ρ s w N n kN kX) (m + 1) a w := by
    intro c fr s kN kX h ρ N n a w hok hF H hG
    simp only [stepC, cdLoop] at h
    show c.wp P (Exit.then (Code.rounds P c (QC ρ s w N n kN kX) m) (QC ρ s w N n kN kX)) a w
    refine wp_mono (hI c fr s _ _ h ρ N n a w hok hF H hG) fun e a1 w1 he => ?_
    cases e with
    | normal =>
      obtain ⟨ρ1, fr1, s1, h1, h2, h3, h4, h5⟩ := he
      exact rounds_mono (fun e a w q => QC.trans h3 h4 q) m a1 w1 (hL c fr1 s1 kN kX h5 ρ1 N n a1 w1 hok h1 h2 (hG.mono h3.le))
    | exit i => exact he
    | ret => exact he
    | panic chain => exact he
    | goto l => exact he
    | outgrown => exact he
  refine ⟨?_, hloop⟩
  intro c fr s kN kX h ρ N n a w hok hF H hG
  have stop : QC ρ s w N n kN kX = QC ρ s w N n kN kX := rfl
  cases c with
  | skip => exact wp_skip ⟨ρ, fr, s, hF, H, Ext.refl ρ s, Below.refl N w, h⟩
  | label l => exact wp_label ⟨ρ, fr, s, hF, H, Ext.refl ρ s, Below.refl N w, h⟩
  | region id ops draw =>
    simp only [stepC, cdRegion] at h
    cases draw with
    | true => rw [cond_true] at h; exact region_sound hM hP hC h hok hF H hG
    | false =>
      rw [cond_false] at h
      refine wp_region ?_
      have := evOps_sound hP hC (ρ0 := ρ) (s0 := s) (w0 := w) ops.toList 0 fr s (fun j => by simp) hok h ρ a w hF H hG (Ext.refl ρ s) (Below.refl N w)
      simpa using this
  | seq x y =>
    simp only [stepC, cdSeq] at h
    simp only [codeOk, Bool.and_eq_true] at hok
    refine wp_seq (wp_mono (hI x fr s _ _ h ρ N n a w hok.1 hF H hG) fun e a1 w1 he => ?_)
    cases e with
    | normal =>
      obtain ⟨ρ1, fr1, s1, h1, h2, h3, h4, h5⟩ := he
      exact wp_mono (hI y fr1 s1 _ _ h5 ρ1 N n a1 w1 hok.2 h1 h2 (hG.mono h3.le)) fun e a w q => QC.trans h3 h4 q
    | exit i => exact he
    | ret => exact he
    | panic chain => exact he
    | goto l => exact he
    | outgrown => exact he
  | cond c x y =>
    simp only [stepC, cdCond] at h
    simp only [codeOk, Bool.and_eq_true] at hok
    split at h
    · rename_i t ht
      have hor := OR.eval (G := P.globals.size) hF.env hG c (fun g hg => by subst hg; exact Nat.le_of_ble_eq_true hok.1)
      have hv := hor (by rw [ht]; simp)
      rw [ht] at hv
      simp only [VR] at hv
      refine wp_cond hv ?_
      have := hI _ fr s _ _ h ρ N n a w (by cases t; exact hok.2.2; exact hok.2.1) hF H hG
      cases t <;> exact this
    · simp [failB] at h
  | block id c =>
    simp only [stepC, cdBlock] at h
    refine wp_block (wp_mono (hI c fr s _ _ h ρ N n a w hok hF H hG) fun e a1 w1 he => ?_)
    cases e with
    | normal => exact he
    | exit i =>
      obtain ⟨ρ1, fr1, s1, h1, h2, h3, h4, h5⟩ := he
      simp only [afterBlock] at h5
      show (if i = id then QC ρ s w N n kN kX .normal a1 w1 else QC ρ s w N n kN kX (.exit i) a1 w1)
      cases hb : Nat.beq i id with
      | true => rw [hb] at h5; rw [if_pos (Nat.eq_of_beq_eq_true hb)]; exact ⟨ρ1, fr1, s1, h1, h2, h3, h4, h5⟩
      | false =>
        rw [hb] at h5
        rw [if_neg (fun e => by subst e; simp at hb)]
        exact ⟨ρ1, fr1, s1, h1, h2, h3, h4, h5⟩
    | ret => exact he
    | panic chain => exact he
    | goto l => exact he
    | outgrown => exact he
  | loop c => exact wp_loop_rounds (m + 1) (hloop c fr s kN kX h ρ N n a w hok hF H hG)
  | exit id => exact wp_exit ⟨ρ, fr, s, hF, H, Ext.refl ρ s, Below.refl N w, h⟩
  | ret => exact wp_ret ⟨ρ, fr, s, hF, H, Ext.refl ρ s, Below.refl N w, h⟩
  | rangeFunc f ps x y => simp [stepC, cdNo, failB] at h
  | scope c =>
    simp only [stepC, cdScope] at h
    refine wp_scope_straight (wp_mono (hI c fr s _ _ h ρ N n a w hok hF H hG) fun e a1 w1 he => ?_)
    cases e with
    | goto l => exact he
    | normal => exact he
    | exit i => exact he
    | ret => exact he
    | panic chain => exact he
    | outgrown => exact he
  | goto l => simp [stepC, cdNo, failB] at h
  | refuse y => simp [stepC, cdNo, failB] at h
end Go.Sh
