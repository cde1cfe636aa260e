/- Part of a proof that a closed law answers true: the evaluator of the first text is sound; this text is one step of it. No condition. -/
import Derived.Test.YtbnplpeodjknaaaGreatDoorShW
import Derived.LoopN
import Derived.LoopNIn
import Derived.Scope
set_option linter.unusedSectionVars false
set_option linter.unusedSimpArgs false
set_option linter.unusedVariables false
namespace Go.Sh
variable [Opq]
open Go.RowKit (Below)
variable {I : Rho → World → Prop}
variable {P : Program} {E : EE} {callF : CallF}

theorem QC.trans {ρ ρ' : Rho} {s s' : St} {w w' : World} {N : Bound I} {n : Nat} {kN : KN} {kX : KX} (hE : Ext ρ s ρ' s') (hB : Below N w w') {e : Exit} {a1 : Act} {w1 : World} (h : QC ρ' s' w' N n kN kX e a1 w1) : QC ρ s w N n kN kX e a1 w1 := by
  cases e with
  | normal => obtain ⟨ρ1, fr1, s1, h1, h2, h3, h4, h5⟩ := h; exact ⟨ρ1, fr1, s1, h1, h2, hE.trans h3, hB.trans h4, h5⟩
  | exit i => obtain ⟨ρ1, fr1, s1, h1, h2, h3, h4, h5⟩ := h; exact ⟨ρ1, fr1, s1, h1, h2, hE.trans h3, hB.trans h4, h5⟩
  | ret => obtain ⟨ρ1, fr1, s1, h1, h2, h3, h4, h5⟩ := h; exact ⟨ρ1, fr1, s1, h1, h2, hE.trans h3, hB.trans h4, h5⟩
  | panic chain => obtain ⟨ρ1, fr1, s1, x, v, h0, h0', h1, h2, h3, h4, h5⟩ := h; exact ⟨ρ1, fr1, s1, x, v, h0, h0', h1, h2, hE.trans h3, hB.trans h4, h5⟩
  | goto l => exact h.elim
  | outgrown => exact h.elim
theorem FrR.mono {ρ ρ' : Rho} (h : ρ.le ρ') {n : Nat} {fr : Fr} {a : Act} (hF : FrR ρ n fr a) : FrR ρ' n fr a := ⟨hF.env.mono h, hF.size, hF.dfr.mono h⟩
theorem FrR.put {ρ : Rho} {n : Nat} {fr : Fr} {a : Act} (hF : FrR ρ n fr a) {dst : Option Tmp} (hd : dstOk n dst = true) {x : SV} {v : Value} (hv : VR ρ x v) : FrR ρ n (fr.put dst x) (a.put dst v) := by
  refine ⟨fun t ht => ?_, by rw [put_size]; exact hF.size, by rw [put_defers']; exact hF.dfr⟩
  rcases env_put ht with ⟨h1, h2⟩ | ⟨h1, h2⟩
  · subst h1
    have : t < a.tmps.size := by rw [hF.size]; exact Nat.le_of_ble_eq_true hd
    exact ⟨v, put_eq this, by show VR ρ ((putD fr.env (some t) x).get t) v; rw [h2]; exact hv⟩
  · have ht' : fr.env.get t ≠ .bad := by rw [← h2]; exact ht
    obtain ⟨u, h3, h4⟩ := hF.env t ht'
    exact ⟨u, by rw [put_ne h1]; exact h3, by show VR ρ ((putD fr.env dst x).get t) u; rw [h2]; exact h4⟩
/-- the operations of a region, one after the other -/
theorem evOps_sound {ro : Option Nat} (hP : PH P E) (hC : CallSound I P callF) {n : Nat} {N : Bound I} {ops : Array Oper} {kN : KN} {kX : KX} {ρ0 : Rho} {s0 : St} {w0 : World} : ∀ (os : List Oper) (k : Nat) (fr : Fr) (s : St), (∀ j : Nat, os[j]? = ops[k + j]?) → os.all (operOk n P.globals.size) = true → (ro ≠ none → os.all (fun o => notDefer o.op) = true) →
    evOps E P callF ops os fr s kN kX = true → ∀ (ρ : Rho) (a : Act) (w : World), FrR ρ n fr a → Rel ρ N s w → Glob P.globals.size ρ → Ext ρ0 s0 ρ s → Below N w0 w →
    wpOpsIn (Wd ro) 0 P ops (QC ρ0 s0 w0 N n kN kX) ((List.range os.length).map (k + ·)) a w
  | [], k, fr, s, _, _, _, hev, ρ, a, w, hF, H, hG, hE, hB => by
    simp only [evOps] at hev
    exact ⟨ρ, fr, s, hF, H, hE, hB, hev⟩
  | o :: os, k, fr, s, hj, hok, hnd, hev, ρ, a, w, hF, H, hG, hE, hB => by
    simp only [List.all_cons, Bool.and_eq_true] at hok
    have hop := hok.1
    unfold operOk at hop
    rw [Bool.and_eq_true] at hop
    have ho : ops[k]? = some o := by have := hj 0; simpa using this.symm
    have hj' : ∀ j : Nat, os[j]? = ops[k + 1 + j]? := fun j => by
      have := hj (j + 1)
      rw [List.getElem?_cons_succ] at this
      rw [this]
      congr 1
      omega
    have hlist : (List.range (o :: os).length).map (k + ·) = k :: (List.range os.length).map (k + 1 + ·) := by
      simp only [List.length_cons, List.range_succ_eq_map, List.map_cons, List.map_map, Nat.add_zero]
      congr 1
      apply List.map_congr_left
      intro j _
      simp only [Function.comp]
      omega
    have hnd1 : ro ≠ none → notDefer o.op = true := fun h => by have := hnd h; rw [List.all_cons, Bool.and_eq_true] at this; exact this.1
    have hnd2 : ro ≠ none → os.all (fun o => notDefer o.op) = true := fun h => by have := hnd h; rw [List.all_cons, Bool.and_eq_true] at this; exact this.2
    rw [hlist, wpOpsIn_cons]
    have hreal : ∀ t, t ∈ o.looksAt ops → fr.env.get t ≠ .bad → ∃ v, a.tmps[t]? = some v ∧ VR ρ (fr.env.get t) v := fun t _ ht => hF.env t ht
    have hopd := opd_of hG hop.2 hreal
    have go : ∀ (ρ' : Rho) (s' : St) (w' : World) (fr' : Fr) (a' : Act), FrR ρ' n fr' a' → Rel ρ' N s' w' → Ext ρ s ρ' s' → Below N w w' → evOps E P callF ops os fr' s' kN kX = true →
        wpOpsIn (Wd ro) 0 P ops (QC ρ0 s0 w0 N n kN kX) ((List.range os.length).map (k + 1 + ·)) a' w' := fun ρ' s' w' fr' a' q1 q2 q3 q4 q5 =>
      evOps_sound hP hC os (k + 1) fr' s' hj' hok.2 hnd2 q5 ρ' a' w' q1 q2 (hG.mono q3.le) (hE.trans q3) (hB.trans q4)
    simp only [evOps] at hev
    unfold wpOpIn
    simp only [ho]
    split at hev
    · rename_i hw
      rw [wanted_sound hw hreal]
      simp only [if_true]
      have hs := exec_sound hP.eok H o hopd
      refine ⟨fun _ _ => trivial, ?_⟩
      rw [semAt_eq hnd1]
      refine outR_sound hC H hG hs hev ?_ ?_ ?_
      · intro ρ' s' w' x v q1 q2 q3 q4 q5
        exact go ρ' s' w' _ _ ((hF.mono q3.le).put hop.1 q1) q2 q3 q4 q5
      · intro ρ' s' w' x v q1 q2 q3 q4 q5
        exact ⟨ρ', fr, s', x, v, rfl, q1, hF.mono q3.le, q2, hE.trans q3, hB.trans q4, q5⟩
      · intro f args a' c' q1 q2
        have hF' : FrR ρ n ⟨fr.env, Df.fn f args :: fr.ds⟩ { a with defers := { target := .fn (.func f) c'.toArray, args := a'.toArray } :: a.defers } := ⟨hF.env, hF.size, a', c', a.defers, q1, rfl, hF.dfr⟩
        exact go ρ s w _ _ (hF'.put hop.1 vrUndef) H (Ext.refl ρ s) (Below.refl N w) q2
    · rename_i hw
      rw [wanted_sound hw hreal]
      simp only [Bool.false_eq_true, if_false]
      exact ⟨fun _ _ => trivial, go ρ s w _ _ (hF.put hop.1 vrUndef) H (Ext.refl ρ s) (Below.refl N w) hev⟩
    · simp [failB] at hev

/-! ## code -/
/-- the loop in whose round a frame stands, on both sides -/
def RdR (ρ : Rho) : Option Nat → Option Nat → Prop
  | none, none => True
  | some b, some r => ∃ base e, ρ b = some (r, base, e)
  | _, _ => False
theorem RdR.mono {ρ ρ' : Rho} (h : ρ.le ρ') : ∀ {rd ro : Option Nat}, RdR ρ rd ro → RdR ρ' rd ro
  | none, none, _ => trivial
  | some _, some _, ⟨base, e, hb⟩ => ⟨base, e, h _ _ hb⟩
  | none, some _, hr => hr
  | some _, none, hr => hr
theorem RdR.ne {ρ : Rho} : ∀ {rd ro : Option Nat}, RdR ρ rd ro → ro ≠ none → rd ≠ none
  | none, none, _, h => absurd rfl h
  | some _, _, _, _ => by simp
  | none, some _, hr, _ => hr.elim
/-- an evaluator of code is sound: in rounds of the loop rd, in frames of n slots -/
def CodeSound (I : Rho → World → Prop) (P : Program) (rd : Option Nat) (n : Nat) (ih : IH) : Prop := ∀ (c : Code) (fr : Fr) (s : St) (kN : KN) (kX : KX), ih c fr s kN kX = true →
  ∀ (ρ : Rho) (N : Bound I) (ro : Option Nat) (a : Act) (w : World), RdR ρ rd ro → codeOk n P.globals.size c = true → (rd ≠ none → noDfr c = true) → FrR ρ n fr a → Rel ρ N s w → Glob P.globals.size ρ → c.wpIn (Wd ro) 0 P (QC ρ s w N n kN kX) a w
theorem rounds_mono {F : Fence} {nn : Nat} {c : Code} {Q Q' : Exit → Act → World → Prop} (h : ∀ e a w, Q e a w → Q' e a w) : ∀ (m : Nat) (a : Act) (w : World), Code.roundsIn F nn P c Q m a w → Code.roundsIn F nn P c Q' m a w
  | 0, a, w, hr => hr.elim
  | m + 1, a, w, hr => by
    have hr' : c.wpIn F nn P (Exit.then (Code.roundsIn F nn P c Q m) Q) a w := hr
    show c.wpIn F nn P (Exit.then (Code.roundsIn F nn P c Q' m) Q') a w
    refine wpIn_mono hr' fun e a w he => ?_
    cases e with
    | normal => exact rounds_mono h m a w he
    | exit i => exact h _ _ _ he
    | ret => exact h _ _ _ he
    | panic chain => exact h _ _ _ he
    | goto l => exact h _ _ _ he
    | outgrown => exact h _ _ _ he
theorem rounds_more {F : Fence} {nn : Nat} {c : Code} {Q : Exit → Act → World → Prop} : ∀ (m k : Nat) (a : Act) (w : World), m ≤ k → Code.roundsIn F nn P c Q m a w → Code.roundsIn F nn P c Q k a w
  | 0, k, a, w, _, hr => hr.elim
  | m + 1, 0, a, w, h, hr => by omega
  | m + 1, k + 1, a, w, h, hr => by
    have hr' : c.wpIn F nn P (Exit.then (Code.roundsIn F nn P c Q m) Q) a w := hr
    show c.wpIn F nn P (Exit.then (Code.roundsIn F nn P c Q k) Q) a w
    refine wpIn_mono hr' fun e a w he => ?_
    cases e with
    | normal => exact rounds_more m k a w (by omega) he
    | exit i => exact he
    | ret => exact he
    | panic chain => exact he
    | goto l => exact he
    | outgrown => exact he
section
variable {b : Frame} {k : List Item} {cs : List Frame} {a : Act} {w : World} {F : Fence} {n : Nat} {Q : Exit → Act → World → Prop}
theorem stepR_scope {c : Code} : step P (lone (b.atR a (.code (.scope c) :: k)) cs w) = .next (lone (b.atR a (.code c :: .inScope c :: k)) cs w) :=
  step_lone_go (by simp [stepG, stepG.exec, Frame.atR])
theorem stepR_inScope {c : Code} : step P (lone (b.atR a (.inScope c :: k)) cs w) = .next (lone (b.atR a k) cs w) :=
  step_lone_go (by simp [stepG, stepG.exec, Frame.atR])
theorem wpIn_scope_straight {c : Code} (h : c.wpIn F n P (Exit.noGoto Q) a w) : (Code.scope c).wpIn F n P Q a w := by
  intro b k cs hro hb hr
  have h0 : (lone (b.atR a (.code (.scope c) :: k)) cs w).fenced P F := fenced_calm hb hr rfl
  obtain ⟨e, a₁, w₁, hq, harr⟩ := h b (.inScope c :: k) cs hro hb hr
  cases e with
  | normal => exact ⟨.normal, a₁, w₁, hq, .head h0 stepR_scope (StepsIn.trans harr (.one (fenced_calm hb hr rfl) stepR_inScope))⟩
  | exit id =>
    have hx : exitTo id (.inScope c :: k) = exitTo id k := by simp [exitTo]
    exact ⟨.exit id, a₁, w₁, hq, fun k' hk => .head h0 stepR_scope (harr.1 k' (by rw [hx]; exact hk)),
      fun hr' hk => let ⟨k₁, h1, h2⟩ := harr.2 hr' (by rw [hx]; exact hk); ⟨k₁, h1, .head h0 stepR_scope h2⟩⟩
  | goto l => exact hq.elim
  | ret => exact ⟨_, a₁, w₁, hq, .of_steps (.one h0 stepR_scope) harr⟩
  | panic ch => exact ⟨_, a₁, w₁, hq, .of_steps (.one h0 stepR_scope) harr⟩
  | outgrown => exact ⟨_, a₁, w₁, hq, .of_steps (.one h0 stepR_scope) harr⟩
end
/-! ## a range over a function -/
theorem run_getLoop {w : World} {r : Nat} {l : Loop} (h : w.heap[r]? = some (.loop l)) : (Instr.getLoop r).run P w = .ok l w := by
  simp [Instr.getLoop, run_getObj w r _ h (by simp)]
theorem run_enter_none {w : World} {fn : FuncId} {tmps : Array Value} {ps : Array Tmp} {x y : Code} : (Instr.enterLoop fn tmps ps x y none).run P w =
    .ok (w.heap.size + 1, [{ target := .collected w.heap.size, args := #[] }]) (newB (newB w (.deferred (some []))) (.loop { state := .ready, pending := none, fn, tmps, params := ps, assign := x, body := y, defers := w.heap.size })) := by
  simp [Instr.enterLoop]
  rfl
theorem run_enter_some {w : World} {fn : FuncId} {tmps : Array Value} {ps : Array Tmp} {x y : Code} {r : Nat} {l : Loop} (h : w.heap[r]? = some (.loop l)) : (Instr.enterLoop fn tmps ps x y (some r)).run P w =
    .ok (w.heap.size, []) (newB w (.loop { state := .ready, pending := none, fn, tmps, params := ps, assign := x, body := y, defers := l.defers })) := by
  simp [Instr.enterLoop, run_getLoop h]
  rfl
theorem run_endLoop {w : World} {r : Nat} {l : Loop} (h : w.heap[r]? = some (.loop l)) (hb : l.state ≠ .busy) : (Instr.endLoop r).run P w = .ok l.pending (putB w r (.loop { l with state := .exhausted })) := by
  simp [Instr.endLoop, run_getLoop h, hb, run_setObj w r _ _ h (by simp)]
theorem loopSt_busy {st : Nat} (h : Nat.beq st 1 = false) : loopSt st ≠ .busy := by
  match st with
  | 0 => simp [loopSt]
  | 1 => simp at h
  | 2 => simp [loopSt]
  | n + 3 => simp [loopSt]
theorem entersB_run {f : FuncId} (h : entersB P f = true) (args' : Array Value) (w : World) : (callFunc f args').run P w = .ok (.enter f args') w := by
  unfold entersB at h
  split at h
  · rename_i fn' hf
    split at h
    · rename_i c' hbody
      rw [Bool.not_eq_true'] at h
      have h1 : fn'.name ≠ "runtime.NumGoroutine" := by simpa using h
      simp [callFunc, hf, h1, hbody]
    · cases h
  · cases h
/-- the end of a range over a function -/
theorem endLoop_sound {ρ0 : Rho} {s0 : St} {w0 : World} {N : Bound I} {n : Nat} {ro : Option Nat} {kN : KN} {kX : KX} {ρ : Rho} {s : St} {w : World} {b r base e : Nat} {fr : Fr} {a : Act} (hb : ρ b = some (r, base, e)) (hF : FrR ρ n fr a) (H : Rel ρ N s w) (hE : Ext ρ0 s0 ρ s) (hB : Below N w0 w) (h : endLoopS b fr s kN kX = true) :
    ∃ jump w4, (Instr.endLoop r).run P w = .ok jump w4 ∧ (match jump with | none => QC ρ0 s0 w0 N n kN kX .normal a w4 | some c => c.wpIn (Wd ro) 0 P (QC ρ0 s0 w0 N n kN kX) a w4) := by
  unfold endLoopS at h
  split at h
  · rename_i n' env ps x y st pend dm hg
    cases hst : Nat.beq st 1 with
    | true => rw [hst, cond_true] at h; simp [failB] at h
    | false =>
      rw [hst, cond_false] at h
      have hL := H.live _ _ _ _ hb
      rw [hg] at hL
      obtain ⟨l, r', base', e', h1, h2, h3, h4, h5, h6, h7, h8, h9, h10⟩ := hL
      have hw : writable (s.h.get b) = true := by rw [hg]; rfl
      have hrun := run_endLoop (P := P) h1 (by rw [h7]; exact loopSt_busy hst)
      have HP := H.put (blk := .none) (o := .loop { l with state := .exhausted }) hb hw (by simp [BR])
      have hE' := hE.trans (Ext.put H hb .none)
      have hB' := hB.trans (Below.putB (w := w) (r := r) (o := .loop { l with state := .exhausted }) (H.low _ _ _ _ hb hw))
      generalize putB w r (.loop { l with state := .exhausted }) = W at hrun HP hB'
      refine ⟨_, _, hrun, ?_⟩
      rw [h8]
      split at h
      · exact ⟨ρ, fr, _, hF, HP, hE', hB', h⟩
      · exact wpIn_ret ⟨ρ, fr, _, hF, HP, hE', hB', h⟩
      · exact wpIn_exit ⟨ρ, fr, _, hF, HP, hE', hB', h⟩
      · simp [failB] at h
  · simp [failB] at h
theorem rangeF_sound (hC : CallSound I P callF) {rd : Option Nat} {n : Nat} {ih : IH} {g : Operand} {ps : Array Tmp} {x y : Code} {fr : Fr} {s : St} {kN : KN} {kX : KX} (h : cdRange rd n g ps x y P ih callF fr s kX kN = true)
    {ρ : Rho} {N : Bound I} {ro : Option Nat} {a : Act} {w : World} (hro : RdR ρ rd ro) (hok : opdOk P.globals.size g = true) (hF : FrR ρ n fr a) (H : Rel ρ N s w) (hG : Glob P.globals.size ρ) :
    (Code.rangeFunc g ps x y).wpIn (Wd ro) 0 P (QC ρ s w N n kN kX) a w := by
  unfold cdRange at h
  split at h
  · rename_i f first cap he
    cases hen : entersB P f with
    | false => rw [hen] at h; simp [failB] at h
    | true =>
      rw [hen, cond_true] at h
      have hor := OR.eval (G := P.globals.size) hF.env hG g (fun g' hg => by subst hg; exact Nat.le_of_ble_eq_true hok)
      have hv := hor (by rw [he]; simp)
      rw [he] at hv
      simp only [VR] at hv
      obtain ⟨a', c', ha, hc, hre⟩ := hv
      split at h
      · have hro' : ro = none := by cases ro with
          | none => rfl
          | some _ => exact hro.elim
        subst hro'
        refine wpIn_rangeFunc fun fn _ => ?_
        have H1 : Rel (ρ.add s.nx (w.heap.size, 0, 0)) N (s.new .dm) (newB w (.deferred (some []))) := H.new (by simp [BR])
        have E1 := Ext.new H .dm (w.heap.size, 0, 0)
        have H2 : Rel ((ρ.add s.nx (w.heap.size, 0, 0)).add (s.new .dm).nx ((newB w (.deferred (some []))).heap.size, 0, 0)) N ((s.new .dm).new (.lp n fr.env ps x y 0 none s.nx)) (newB (newB w (.deferred (some []))) (.loop { state := .ready, pending := none, fn, tmps := a.tmps, params := ps, assign := x, body := y, defers := w.heap.size })) :=
          H1.new (by
            simp only [BR]
            exact ⟨_, w.heap.size, 0, 0, rfl, hF.size, fun t ht => (hF.mono E1.le).env t ht, rfl, rfl, rfl, rfl, rfl, Rho.add_self _ _ _, rfl⟩)
        have E2 := Ext.new H1 (.lp n fr.env ps x y 0 none s.nx) ((newB w (.deferred (some []))).heap.size, 0, 0)
        have E12 := E1.trans E2
        have B1 : Below N w (newB w (.deferred (some []))) := Below.newB H.size
        have B2 := B1.trans (Below.newB (o := .loop { state := .ready, pending := none, fn, tmps := a.tmps, params := ps, assign := x, body := y, defers := w.heap.size }) H1.size)
        have hsz : (newB w (.deferred (some []))).heap.size = w.heap.size + 1 := by simp [newB]
        have hargs : VRs ((ρ.add s.nx (w.heap.size, 0, 0)).add (s.new .dm).nx ((newB w (.deferred (some []))).heap.size, 0, 0)) (first ++ [.yld (Nat.succ s.nx)] ++ cap) (a' ++ [Value.func (.yield (w.heap.size + 1)) #[] #[]] ++ c') := by
          refine (VRs.append (VRs.mono E12.le _ _ ha) (VRs.cons ?_ VRs.nil)).append (VRs.mono E12.le _ _ hc)
          simp only [VR]
          exact ⟨w.heap.size + 1, 0, 0, by rw [← hsz]; exact Rho.add_self _ _ _, rfl⟩
        have hcall := hC.f f _ _ _ _ h _ N _ _ H2 (hG.mono E12.le) hargs
        refine ⟨w.heap.size + 1, [{ target := .collected w.heap.size, args := #[] }], (newB (newB w (.deferred (some []))) (.loop { state := .ready, pending := none, fn, tmps := a.tmps, params := ps, assign := x, body := y, defers := w.heap.size })), { target := .fn (.func f) c'.toArray, args := a'.toArray ++ #[Value.func (.yield (w.heap.size + 1)) #[] #[]] }, (newB (newB w (.deferred (some []))) (.loop { state := .ready, pending := none, fn, tmps := a.tmps, params := ps, assign := x, body := y, defers := w.heap.size })), f, (a' ++ [Value.func (.yield (w.heap.size + 1)) #[] #[]] ++ c').toArray, (newB (newB w (.deferred (some []))) (.loop { state := .ready, pending := none, fn, tmps := a.tmps, params := ps, assign := x, body := y, defers := w.heap.size })), run_enter_none, ?_, fun _ _ => trivial, ?_, (fun h => by cases h), ?_⟩
        · simp only [resolve, rangeCall, hre, Deferred.ofValue, Sem.run_bind, Sem.run_pure, Result.andThen_ok]; simp [Act.eval]
        · have := entersB_run hen ((a' ++ [Value.func (.yield (w.heap.size + 1)) #[] #[]] ++ c').toArray) (newB (newB w (.deferred (some []))) (.loop { state := .ready, pending := none, fn, tmps := a.tmps, params := ps, assign := x, body := y, defers := w.heap.size }))
          simp only [invoke]
          rw [← this]
          congr 2
          simp
        · rcases hcall with ⟨_, h3⟩ | ⟨v, w', h2, _⟩
          · refine Wd.callsIn (Calls.mono h3 fun e w' he => ?_)
            cases e with
            | returned v =>
              obtain ⟨ρ', s1, x1, q1, q2, q3, q4, q5⟩ := he
              have hl := q3.le _ _ (by rw [← hsz]; exact Rho.add_self _ _ _ : ((ρ.add s.nx (w.heap.size, 0, 0)).add (s.new .dm).nx ((newB w (.deferred (some []))).heap.size, 0, 0)) (Nat.succ s.nx) = some (w.heap.size + 1, 0, 0))
              have hm : ((ρ.add s.nx (w.heap.size, 0, 0)).add (s.new .dm).nx ((newB w (.deferred (some []))).heap.size, 0, 0)) s.nx = some (w.heap.size, 0, 0) := E2.le _ _ (Rho.add_self _ _ _)
              have hF' : FrR ρ' n ⟨fr.env, .mark s.nx :: fr.ds⟩ { a with defers := [{ target := .collected w.heap.size, args := #[] }] ++ a.defers } :=
                ⟨(hF.mono (Rho.le_trans E12.le q3.le)).env, hF.size, w.heap.size, 0, 0, a.defers, q3.le _ _ hm, rfl, (hF.mono (Rho.le_trans E12.le q3.le)).dfr⟩
              exact endLoop_sound hl hF' q2 (E12.trans q3) (B2.trans q4) q5
            | panicked chain =>
              obtain ⟨ρ', s1, x1, v, rfl, q1, q2, q3, q4, q5⟩ := he
              have hm : ((ρ.add s.nx (w.heap.size, 0, 0)).add (s.new .dm).nx ((newB w (.deferred (some []))).heap.size, 0, 0)) s.nx = some (w.heap.size, 0, 0) := E2.le _ _ (Rho.add_self _ _ _)
              have hF' : FrR ρ' n ⟨fr.env, .mark s.nx :: fr.ds⟩ { a with defers := [{ target := .collected w.heap.size, args := #[] }] ++ a.defers } :=
                ⟨(hF.mono (Rho.le_trans E12.le q3.le)).env, hF.size, w.heap.size, 0, 0, a.defers, q3.le _ _ hm, rfl, (hF.mono (Rho.le_trans E12.le q3.le)).dfr⟩
              exact ⟨ρ', _, s1, x1, v, rfl, q1, hF', q2, E12.trans q3, B2.trans q4, q5⟩
            | outgrown => exact he.elim
          · rw [entersB_run hen] at h2; cases h2
      · rename_i l
        split at h
        · rename_i n' env' ps' x' y' st' pend' dm hg
          obtain ⟨r, rfl⟩ : ∃ r, ro = some r := by cases ro with
            | none => exact hro.elim
            | some r => exact ⟨r, rfl⟩
          obtain ⟨base, e, hl⟩ := hro
          have hL := H.live _ _ _ _ hl
          rw [hg] at hL
          obtain ⟨lo, r', base', e', h1, h2, h3, h4, h5, h6, h7, h8, h9, h10⟩ := hL
          refine wpIn_rangeFunc fun fn _ => ?_
          have H2 : Rel (ρ.add s.nx (w.heap.size, 0, 0)) N (s.new (.lp n fr.env ps x y 0 none dm)) (newB w (.loop { state := .ready, pending := none, fn, tmps := a.tmps, params := ps, assign := x, body := y, defers := lo.defers })) :=
            H.new (by
              simp only [BR]
              exact ⟨_, r', base', e', rfl, hF.size, fun t ht => hF.env t ht, rfl, rfl, rfl, rfl, rfl, h9, h10⟩)
          have E2 := Ext.new H (.lp n fr.env ps x y 0 none dm) (w.heap.size, 0, 0)
          have B2 := Below.newB (o := .loop { state := .ready, pending := none, fn, tmps := a.tmps, params := ps, assign := x, body := y, defers := lo.defers }) H.size
          have hargs : VRs (ρ.add s.nx (w.heap.size, 0, 0)) (first ++ [.yld s.nx] ++ cap) (a' ++ [Value.func (.yield w.heap.size) #[] #[]] ++ c') := by
            refine (VRs.append (VRs.mono E2.le _ _ ha) (VRs.cons ?_ VRs.nil)).append (VRs.mono E2.le _ _ hc)
            simp only [VR]
            exact ⟨w.heap.size, 0, 0, Rho.add_self _ _ _, rfl⟩
          have hcall := hC.f f _ _ _ _ h _ N _ _ H2 (hG.mono E2.le) hargs
          refine ⟨w.heap.size, [], (newB w (.loop { state := .ready, pending := none, fn, tmps := a.tmps, params := ps, assign := x, body := y, defers := lo.defers })), { target := .fn (.func f) c'.toArray, args := a'.toArray ++ #[Value.func (.yield w.heap.size) #[] #[]] }, (newB w (.loop { state := .ready, pending := none, fn, tmps := a.tmps, params := ps, assign := x, body := y, defers := lo.defers })), f, (a' ++ [Value.func (.yield w.heap.size) #[] #[]] ++ c').toArray, (newB w (.loop { state := .ready, pending := none, fn, tmps := a.tmps, params := ps, assign := x, body := y, defers := lo.defers })), run_enter_some h1, ?_, fun _ _ => trivial, ?_, (fun h => by cases h), ?_⟩
          · simp only [resolve, rangeCall, hre, Deferred.ofValue, Sem.run_bind, Sem.run_pure, Result.andThen_ok]; simp [Act.eval]
          · have := entersB_run hen ((a' ++ [Value.func (.yield w.heap.size) #[] #[]] ++ c').toArray) (newB w (.loop { state := .ready, pending := none, fn, tmps := a.tmps, params := ps, assign := x, body := y, defers := lo.defers }))
            simp only [invoke]
            rw [← this]
            congr 2
            simp
          · rcases hcall with ⟨_, h3⟩ | ⟨v, w', h2, _⟩
            · refine Wd.callsIn (Calls.mono h3 fun e w' he => ?_)
              cases e with
              | returned v =>
                obtain ⟨ρ', s1, x1, q1, q2, q3, q4, q5⟩ := he
                have hl' := q3.le _ _ (Rho.add_self ρ s.nx (w.heap.size, 0, 0))
                exact endLoop_sound hl' (hF.mono (Rho.le_trans E2.le q3.le)) q2 (E2.trans q3) (B2.trans q4) q5
              | panicked chain =>
                obtain ⟨ρ', s1, x1, v, rfl, q1, q2, q3, q4, q5⟩ := he
                exact ⟨ρ', _, s1, x1, v, rfl, q1, hF.mono (Rho.le_trans E2.le q3.le), q2, E2.trans q3, B2.trans q4, q5⟩
              | outgrown => exact he.elim
            · rw [entersB_run hen] at h2; cases h2
        · simp [failB] at h
  · simp [failB] at h
theorem code_step (hM : P.follows .mixedOrders = true) (hP : PH P E) (hC : CallSound I P callF) {rd : Option Nat} {n : Nat} {ih : IH} (hI : CodeSound I P rd n ih) {m : Nat} (hL : ∀ (c : Code) (fr : Fr) (s : St) (kN : KN) (kX : KX), ih (.loop c) fr s kN kX = true →
      ∀ (ρ : Rho) (N : Bound I) (ro : Option Nat) (a : Act) (w : World), RdR ρ rd ro → codeOk n P.globals.size c = true → (rd ≠ none → noDfr c = true) → FrR ρ n fr a → Rel ρ N s w → Glob P.globals.size ρ → Code.roundsIn (Wd ro) 0 P c (QC ρ s w N n kN kX) m a w) :
    CodeSound I P rd n (fun c fr s kN kX => stepC rd n E c P ih callF fr s kN kX) ∧ (∀ (c : Code) (fr : Fr) (s : St) (kN : KN) (kX : KX), stepC rd n E (.loop c) P ih callF fr s kN kX = true →
      ∀ (ρ : Rho) (N : Bound I) (ro : Option Nat) (a : Act) (w : World), RdR ρ rd ro → codeOk n P.globals.size c = true → (rd ≠ none → noDfr c = true) → FrR ρ n fr a → Rel ρ N s w → Glob P.globals.size ρ → Code.roundsIn (Wd ro) 0 P c (QC ρ s w N n kN kX) (m + 1) a w) := by
  have hloop : ∀ (c : Code) (fr : Fr) (s : St) (kN : KN) (kX : KX), stepC rd n E (.loop c) P ih callF fr s kN kX = true →
      ∀ (ρ : Rho) (N : Bound I) (ro : Option Nat) (a : Act) (w : World), RdR ρ rd ro → codeOk n P.globals.size c = true → (rd ≠ none → noDfr c = true) → FrR ρ n fr a → Rel ρ N s w → Glob P.globals.size ρ → Code.roundsIn (Wd ro) 0 P c (QC ρ s w N n kN kX) (m + 1) a w := by
    intro c fr s kN kX h ρ N ro a w hro hok hnd hF H hG
    simp only [stepC, cdLoop] at h
    show c.wpIn (Wd ro) 0 P (Exit.then (Code.roundsIn (Wd ro) 0 P c (QC ρ s w N n kN kX) m) (QC ρ s w N n kN kX)) a w
    refine wpIn_mono (hI c fr s _ _ h ρ N ro a w hro hok hnd hF H hG) fun e a1 w1 he => ?_
    cases e with
    | normal =>
      obtain ⟨ρ1, fr1, s1, h1, h2, h3, h4, h5⟩ := he
      exact rounds_mono (fun e a w q => QC.trans h3 h4 q) m a1 w1 (hL c fr1 s1 kN kX h5 ρ1 N ro a1 w1 (hro.mono h3.le) hok hnd h1 h2 (hG.mono h3.le))
    | exit i => exact he
    | ret => exact he
    | panic chain => exact he
    | goto l => exact he
    | outgrown => exact he
  refine ⟨?_, hloop⟩
  intro c fr s kN kX h ρ N ro a w hro hok hnd hF H hG
  have stop : QC ρ s w N n kN kX = QC ρ s w N n kN kX := rfl
  cases c with
  | skip => exact wpIn_skip ⟨ρ, fr, s, hF, H, Ext.refl ρ s, Below.refl N w, h⟩
  | label l => exact wpIn_label ⟨ρ, fr, s, hF, H, Ext.refl ρ s, Below.refl N w, h⟩
  | region id ops draw =>
    simp only [stepC, cdRegion] at h
    cases draw with
    | true => rw [cond_true] at h; exact region_sound hM hP hC h hok (fun hx => hnd (hro.ne hx)) hF H hG
    | false =>
      rw [cond_false] at h
      refine wpIn_region ?_
      have := evOps_sound hP hC (ρ0 := ρ) (s0 := s) (w0 := w) ops.toList 0 fr s (fun j => by simp) hok (fun hx => hnd (hro.ne hx)) h ρ a w hF H hG (Ext.refl ρ s) (Below.refl N w)
      simpa using this
  | seq x y =>
    simp only [stepC, cdSeq] at h
    simp only [codeOk, Bool.and_eq_true] at hok
    refine wpIn_seq (wpIn_mono (hI x fr s _ _ h ρ N ro a w hro hok.1 (fun hx => by have := hnd hx; simp only [noDfr, Bool.and_eq_true] at this; exact this.1) hF H hG) fun e a1 w1 he => ?_)
    cases e with
    | normal =>
      obtain ⟨ρ1, fr1, s1, h1, h2, h3, h4, h5⟩ := he
      exact wpIn_mono (hI y fr1 s1 _ _ h5 ρ1 N ro a1 w1 (hro.mono h3.le) hok.2 (fun hx => by have := hnd hx; simp only [noDfr, Bool.and_eq_true] at this; exact this.2) h1 h2 (hG.mono h3.le)) fun e a w q => QC.trans h3 h4 q
    | exit i => exact he
    | ret => exact he
    | panic chain => exact he
    | goto l => exact he
    | outgrown => exact he
  | cond c x y =>
    simp only [stepC, cdCond] at h
    simp only [codeOk, Bool.and_eq_true] at hok
    split at h
    · rename_i t ht
      have hor := OR.eval (G := P.globals.size) hF.env hG c (fun g hg => by subst hg; exact Nat.le_of_ble_eq_true hok.1)
      have hv := hor (by rw [ht]; simp)
      rw [ht] at hv
      simp only [VR] at hv
      refine wpIn_cond hv ?_
      have := hI _ fr s _ _ h ρ N ro a w hro (by cases t; exact hok.2.2; exact hok.2.1) (fun hx => by have := hnd hx; simp only [noDfr, Bool.and_eq_true] at this; cases t; exact this.2; exact this.1) hF H hG
      cases t <;> exact this
    · simp [failB] at h
  | block id c =>
    simp only [stepC, cdBlock] at h
    refine wpIn_block (wpIn_mono (hI c fr s _ _ h ρ N ro a w hro hok hnd hF H hG) fun e a1 w1 he => ?_)
    cases e with
    | normal => exact he
    | exit i =>
      obtain ⟨ρ1, fr1, s1, h1, h2, h3, h4, h5⟩ := he
      simp only [afterBlock] at h5
      show (if i = id then QC ρ s w N n kN kX .normal a1 w1 else QC ρ s w N n kN kX (.exit i) a1 w1)
      cases hb : Nat.beq i id with
      | true => rw [hb] at h5; rw [if_pos (Nat.eq_of_beq_eq_true hb)]; exact ⟨ρ1, fr1, s1, h1, h2, h3, h4, h5⟩
      | false =>
        rw [hb] at h5
        rw [if_neg (fun e => by subst e; simp at hb)]
        exact ⟨ρ1, fr1, s1, h1, h2, h3, h4, h5⟩
    | ret => exact he
    | panic chain => exact he
    | goto l => exact he
    | outgrown => exact he
  | loop c => exact wpIn_loop_rounds (m + 1) (hloop c fr s kN kX h ρ N ro a w hro hok hnd hF H hG)
  | exit id => exact wpIn_exit ⟨ρ, fr, s, hF, H, Ext.refl ρ s, Below.refl N w, h⟩
  | ret => exact wpIn_ret ⟨ρ, fr, s, hF, H, Ext.refl ρ s, Below.refl N w, h⟩
  | rangeFunc g ps x y =>
    simp only [stepC] at h
    simp only [codeOk, Bool.and_eq_true] at hok
    exact rangeF_sound hC h hro hok.1 hF H hG
  | scope c =>
    simp only [stepC, cdScope] at h
    refine wpIn_scope_straight (wpIn_mono (hI c fr s _ _ h ρ N ro a w hro hok hnd hF H hG) fun e a1 w1 he => ?_)
    cases e with
    | goto l => exact he
    | normal => exact he
    | exit i => exact he
    | ret => exact he
    | panic chain => exact he
    | outgrown => exact he
  | goto l => simp [stepC, cdNo, failB] at h
  | refuse y => simp [stepC, cdNo, failB] at h
end Go.Sh
