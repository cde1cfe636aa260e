/- Part of a proof about calls of this program: the evaluator of the first text is sound; this text is one step of it. No condition. -/
import Derived.Test.YtfbeheihdjglgaaDoorShW
import Derived.LoopN
import Derived.LoopNIn
import Derived.Scope
import Derived.Defers
import Derived.Recover
import Derived.RangeFuncLeaves
import Derived.Laws.Externs
set_option linter.unusedSectionVars false
set_option linter.unusedSimpArgs false
set_option linter.unusedVariables false
namespace Go.Sh
variable [Opq]
open Go.RowKit (Below)
variable {I : Rho → World → Prop}
variable {P : Program} {E : EE} {callF : CallF}

theorem QC.trans {ρ ρ' : Rho} {s s' : St} {w w' : World} {N : Bound I} {n : Nat} {kN : KN} {kX : KX} (hE : Ext ρ s ρ' s') (hB : Below N w w') {e : Exit} {a1 : Act} {w1 : World} (h : QC ρ' s' w' N n kN kX e a1 w1) : QC ρ s w N n kN kX e a1 w1 := by
  cases e with
  | normal => obtain ⟨ρ1, fr1, s1, h1, h2, h3, h4, h5⟩ := h; exact ⟨ρ1, fr1, s1, h1, h2, hE.trans h3, hB.trans h4, h5⟩
  | exit i => obtain ⟨ρ1, fr1, s1, h1, h2, h3, h4, h5⟩ := h; exact ⟨ρ1, fr1, s1, h1, h2, hE.trans h3, hB.trans h4, h5⟩
  | ret => obtain ⟨ρ1, fr1, s1, h1, h2, h3, h4, h5⟩ := h; exact ⟨ρ1, fr1, s1, h1, h2, hE.trans h3, hB.trans h4, h5⟩
  | panic chain => obtain ⟨ρ1, fr1, s1, x, v, h0, h0', h1, h2, h3, h4, h5⟩ := h; exact ⟨ρ1, fr1, s1, x, v, h0, h0', h1, h2, hE.trans h3, hB.trans h4, h5⟩
  | goto l => exact h.elim
  | outgrown => exact h.elim
theorem FrR.mono {ρ ρ' : Rho} (h : ρ.le ρ') {n : Nat} {fr : Fr} {a : Act} (hF : FrR ρ n fr a) : FrR ρ' n fr a := ⟨hF.env.mono h, hF.size, hF.dfr.mono h⟩
theorem FrR.put {ρ : Rho} {n : Nat} {fr : Fr} {a : Act} (hF : FrR ρ n fr a) {dst : Option Tmp} (hd : dstOk n dst = true) {x : SV} {v : Value} (hv : VR ρ x v) : FrR ρ n (fr.put dst x) (a.put dst v) := by
  refine ⟨fun t ht => ?_, by rw [put_size]; exact hF.size, by rw [put_defers']; exact hF.dfr⟩
  rcases env_put ht with ⟨h1, h2⟩ | ⟨h1, h2⟩
  · subst h1
    have : t < a.tmps.size := by rw [hF.size]; exact Nat.le_of_ble_eq_true hd
    exact ⟨v, put_eq this, by show VR ρ ((putD fr.env (some t) x).get t) v; rw [h2]; exact hv⟩
  · have ht' : fr.env.get t ≠ .bad := by rw [← h2]; exact ht
    obtain ⟨u, h3, h4⟩ := hF.env t ht'
    exact ⟨u, by rw [put_ne h1]; exact h3, by show VR ρ ((putD fr.env dst x).get t) u; rw [h2]; exact h4⟩
/-- the operations of a region, one after the other -/
theorem evOps_sound {ro : Option Nat} (hP : PH P E) (hC : CallSound I P callF) {n : Nat} {N : Bound I} {ops : Array Oper} {kN : KN} {kX : KX} {ρ0 : Rho} {s0 : St} {w0 : World} : ∀ (os : List Oper) (k : Nat) (fr : Fr) (s : St), (∀ j : Nat, os[j]? = ops[k + j]?) → os.all (operOk n P.globals.size) = true → (ro ≠ none → os.all (fun o => notDefer o.op) = true) →
    evOps E P callF ops os fr s kN kX = true → ∀ (ρ : Rho) (a : Act) (w : World), FrR ρ n fr a → Rel ρ N s w → Glob P.globals.size ρ → Ext ρ0 s0 ρ s → Below N w0 w →
    wpOpsIn (Wd ro) 0 P ops (QC ρ0 s0 w0 N n kN kX) ((List.range os.length).map (k + ·)) a w
  | [], k, fr, s, _, _, _, hev, ρ, a, w, hF, H, hG, hE, hB => by
    simp only [evOps] at hev
    exact ⟨ρ, fr, s, hF, H, hE, hB, hev⟩
  | o :: os, k, fr, s, hj, hok, hnd, hev, ρ, a, w, hF, H, hG, hE, hB => by
    simp only [List.all_cons, Bool.and_eq_true] at hok
    have hop := hok.1
    unfold operOk at hop
    rw [Bool.and_eq_true] at hop
    have ho : ops[k]? = some o := by have := hj 0; simpa using this.symm
    have hj' : ∀ j : Nat, os[j]? = ops[k + 1 + j]? := fun j => by
      have := hj (j + 1)
      rw [List.getElem?_cons_succ] at this
      rw [this]
      congr 1
      omega
    have hlist : (List.range (o :: os).length).map (k + ·) = k :: (List.range os.length).map (k + 1 + ·) := by
      simp only [List.length_cons, List.range_succ_eq_map, List.map_cons, List.map_map, Nat.add_zero]
      congr 1
      apply List.map_congr_left
      intro j _
      simp only [Function.comp]
      omega
    have hnd1 : ro ≠ none → notDefer o.op = true := fun h => by have := hnd h; rw [List.all_cons, Bool.and_eq_true] at this; exact this.1
    have hnd2 : ro ≠ none → os.all (fun o => notDefer o.op) = true := fun h => by have := hnd h; rw [List.all_cons, Bool.and_eq_true] at this; exact this.2
    rw [hlist, wpOpsIn_cons]
    have hreal : ∀ t, t ∈ o.looksAt ops → fr.env.get t ≠ .bad → ∃ v, a.tmps[t]? = some v ∧ VR ρ (fr.env.get t) v := fun t _ ht => hF.env t ht
    have hopd := opd_of hG hop.2 hreal
    have go : ∀ (ρ' : Rho) (s' : St) (w' : World) (fr' : Fr) (a' : Act), FrR ρ' n fr' a' → Rel ρ' N s' w' → Ext ρ s ρ' s' → Below N w w' → evOps E P callF ops os fr' s' kN kX = true →
        wpOpsIn (Wd ro) 0 P ops (QC ρ0 s0 w0 N n kN kX) ((List.range os.length).map (k + 1 + ·)) a' w' := fun ρ' s' w' fr' a' q1 q2 q3 q4 q5 =>
      evOps_sound hP hC os (k + 1) fr' s' hj' hok.2 hnd2 q5 ρ' a' w' q1 q2 (hG.mono q3.le) (hE.trans q3) (hB.trans q4)
    simp only [evOps] at hev
    unfold wpOpIn
    simp only [ho]
    split at hev
    · rename_i hw
      rw [wanted_sound hw hreal]
      simp only [if_true]
      have hs := exec_sound hP.eok H o hopd
      refine ⟨fun _ _ => trivial, ?_⟩
      rw [semAt_eq hnd1]
      refine outR_sound hC H hG hs hev ?_ ?_ ?_
      · intro ρ' s' w' x v q1 q2 q3 q4 q5
        exact go ρ' s' w' _ _ ((hF.mono q3.le).put hop.1 q1) q2 q3 q4 q5
      · intro ρ' s' w' x v q1 q2 q3 q4 q5
        exact ⟨ρ', fr, s', x, v, rfl, q1, hF.mono q3.le, q2, hE.trans q3, hB.trans q4, q5⟩
      · intro f args a' c' q1 q2
        have hF' : FrR ρ n ⟨fr.env, Df.fn f args :: fr.ds⟩ { a with defers := { target := .fn (.func f) c'.toArray, args := a'.toArray } :: a.defers } := ⟨hF.env, hF.size, a', c', a.defers, q1, rfl, hF.dfr⟩
        exact go ρ s w _ _ (hF'.put hop.1 vrUndef) H (Ext.refl ρ s) (Below.refl N w) q2
    · rename_i hw
      rw [wanted_sound hw hreal]
      simp only [Bool.false_eq_true, if_false]
      exact ⟨fun _ _ => trivial, go ρ s w _ _ (hF.put hop.1 vrUndef) H (Ext.refl ρ s) (Below.refl N w) hev⟩
    · simp [failB] at hev

/-! ## code -/
/-- the loop in whose round a frame stands, on both sides -/
def RdR (ρ : Rho) : Option Nat → Option Nat → Prop
  | none, none => True
  | some b, some r => ∃ base e, ρ b = some (r, base, e)
  | _, _ => False
theorem RdR.mono {ρ ρ' : Rho} (h : ρ.le ρ') : ∀ {rd ro : Option Nat}, RdR ρ rd ro → RdR ρ' rd ro
  | none, none, _ => trivial
  | some _, some _, ⟨base, e, hb⟩ => ⟨base, e, h _ _ hb⟩
  | none, some _, hr => hr
  | some _, none, hr => hr
theorem RdR.ne {ρ : Rho} : ∀ {rd ro : Option Nat}, RdR ρ rd ro → ro ≠ none → rd ≠ none
  | none, none, _, h => absurd rfl h
  | some _, _, _, _ => by simp
  | none, some _, hr, _ => hr.elim
/-- an evaluator of code is sound: in rounds of the loop rd, in frames of n slots -/
def CodeSound (I : Rho → World → Prop) (P : Program) (rd : Option Nat) (n : Nat) (ih : IH) : Prop := ∀ (c : Code) (fr : Fr) (s : St) (kN : KN) (kX : KX), ih c fr s kN kX = true →
  ∀ (ρ : Rho) (N : Bound I) (ro : Option Nat) (a : Act) (w : World), RdR ρ rd ro → codeOk n P.globals.size c = true → (rd ≠ none → noDfr c = true) → FrR ρ n fr a → Rel ρ N s w → Glob P.globals.size ρ → c.wpIn (Wd ro) 0 P (QC ρ s w N n kN kX) a w
theorem rounds_mono {F : Fence} {nn : Nat} {c : Code} {Q Q' : Exit → Act → World → Prop} (h : ∀ e a w, Q e a w → Q' e a w) : ∀ (m : Nat) (a : Act) (w : World), Code.roundsIn F nn P c Q m a w → Code.roundsIn F nn P c Q' m a w
  | 0, a, w, hr => hr.elim
  | m + 1, a, w, hr => by
    have hr' : c.wpIn F nn P (Exit.then (Code.roundsIn F nn P c Q m) Q) a w := hr
    show c.wpIn F nn P (Exit.then (Code.roundsIn F nn P c Q' m) Q') a w
    refine wpIn_mono hr' fun e a w he => ?_
    cases e with
    | normal => exact rounds_mono h m a w he
    | exit i => exact h _ _ _ he
    | ret => exact h _ _ _ he
    | panic chain => exact h _ _ _ he
    | goto l => exact h _ _ _ he
    | outgrown => exact h _ _ _ he
theorem rounds_more {F : Fence} {nn : Nat} {c : Code} {Q : Exit → Act → World → Prop} : ∀ (m k : Nat) (a : Act) (w : World), m ≤ k → Code.roundsIn F nn P c Q m a w → Code.roundsIn F nn P c Q k a w
  | 0, k, a, w, _, hr => hr.elim
  | m + 1, 0, a, w, h, hr => by omega
  | m + 1, k + 1, a, w, h, hr => by
    have hr' : c.wpIn F nn P (Exit.then (Code.roundsIn F nn P c Q m) Q) a w := hr
    show c.wpIn F nn P (Exit.then (Code.roundsIn F nn P c Q k) Q) a w
    refine wpIn_mono hr' fun e a w he => ?_
    cases e with
    | normal => exact rounds_more m k a w (by omega) he
    | exit i => exact he
    | ret => exact he
    | panic chain => exact he
    | goto l => exact he
    | outgrown => exact he
section
variable {b : Frame} {k : List Item} {cs : List Frame} {a : Act} {w : World} {F : Fence} {n : Nat} {Q : Exit → Act → World → Prop}
theorem stepR_scope {c : Code} : step P (lone (b.atR a (.code (.scope c) :: k)) cs w) = .next (lone (b.atR a (.code c :: .inScope c :: k)) cs w) :=
  step_lone_go (by simp [stepG, stepG.exec, Frame.atR])
theorem stepR_inScope {c : Code} : step P (lone (b.atR a (.inScope c :: k)) cs w) = .next (lone (b.atR a k) cs w) :=
  step_lone_go (by simp [stepG, stepG.exec, Frame.atR])
theorem wpIn_scope_straight {c : Code} (h : c.wpIn F n P (Exit.noGoto Q) a w) : (Code.scope c).wpIn F n P Q a w := by
  intro b k cs hro hb hr
  have h0 : (lone (b.atR a (.code (.scope c) :: k)) cs w).fenced P F := fenced_calm hb hr rfl
  obtain ⟨e, a₁, w₁, hq, harr⟩ := h b (.inScope c :: k) cs hro hb hr
  cases e with
  | normal => exact ⟨.normal, a₁, w₁, hq, .head h0 stepR_scope (StepsIn.trans harr (.one (fenced_calm hb hr rfl) stepR_inScope))⟩
  | exit id =>
    have hx : exitTo id (.inScope c :: k) = exitTo id k := by simp [exitTo]
    exact ⟨.exit id, a₁, w₁, hq, fun k' hk => .head h0 stepR_scope (harr.1 k' (by rw [hx]; exact hk)),
      fun hr' hk => let ⟨k₁, h1, h2⟩ := harr.2 hr' (by rw [hx]; exact hk); ⟨k₁, h1, .head h0 stepR_scope h2⟩⟩
  | goto l => exact hq.elim
  | ret => exact ⟨_, a₁, w₁, hq, .of_steps (.one h0 stepR_scope) harr⟩
  | panic ch => exact ⟨_, a₁, w₁, hq, .of_steps (.one h0 stepR_scope) harr⟩
  | outgrown => exact ⟨_, a₁, w₁, hq, .of_steps (.one h0 stepR_scope) harr⟩
end
/-! ## a range over a function -/
theorem run_getLoop {w : World} {r : Nat} {l : Loop} (h : w.heap[r]? = some (.loop l)) : (Instr.getLoop r).run P w = .ok l w := by
  simp [Instr.getLoop, run_getObj w r _ h (by simp)]
theorem run_enter_none {w : World} {fn : FuncId} {tmps : Array Value} {ps : Array Tmp} {x y : Code} : (Instr.enterLoop fn tmps ps x y none).run P w =
    .ok (w.heap.size + 1, [{ target := .collected w.heap.size, args := #[] }]) (newB (newB w (.deferred (some []))) (.loop { state := .ready, pending := none, fn, tmps, params := ps, assign := x, body := y, defers := w.heap.size })) := by
  simp [Instr.enterLoop]
  rfl
theorem run_enter_some {w : World} {fn : FuncId} {tmps : Array Value} {ps : Array Tmp} {x y : Code} {r : Nat} {l : Loop} (h : w.heap[r]? = some (.loop l)) : (Instr.enterLoop fn tmps ps x y (some r)).run P w =
    .ok (w.heap.size, []) (newB w (.loop { state := .ready, pending := none, fn, tmps, params := ps, assign := x, body := y, defers := l.defers })) := by
  simp [Instr.enterLoop, run_getLoop h]
  rfl
theorem run_endLoop {w : World} {r : Nat} {l : Loop} (h : w.heap[r]? = some (.loop l)) (hb : l.state ≠ .busy) : (Instr.endLoop r).run P w = .ok l.pending (putB w r (.loop { l with state := .exhausted })) := by
  simp [Instr.endLoop, run_getLoop h, hb, run_setObj w r _ _ h (by simp)]
theorem loopSt_busy {st : Nat} (h : Nat.beq st 1 = false) : loopSt st ≠ .busy := by
  match st with
  | 0 => simp [loopSt]
  | 1 => simp at h
  | 2 => simp [loopSt]
  | n + 3 => simp [loopSt]
theorem entersB_run {f : FuncId} (h : entersB P f = true) (args' : Array Value) (w : World) : (callFunc f args').run P w = .ok (.enter f args') w := by
  unfold entersB at h
  split at h
  · rename_i fn' hf
    split at h
    · rename_i c' hbody
      rw [Bool.not_eq_true'] at h
      have h1 : fn'.name ≠ "runtime.NumGoroutine" := by simpa using h
      simp [callFunc, hf, h1, hbody]
    · cases h
  · cases h
/-- the end of a range over a function -/
theorem endLoop_sound {ρ0 : Rho} {s0 : St} {w0 : World} {N : Bound I} {n : Nat} {ro : Option Nat} {kN : KN} {kX : KX} {ρ : Rho} {s : St} {w : World} {b r base e : Nat} {fr : Fr} {a : Act} (hb : ρ b = some (r, base, e)) (hF : FrR ρ n fr a) (H : Rel ρ N s w) (hE : Ext ρ0 s0 ρ s) (hB : Below N w0 w) (h : endLoopS b fr s kN kX = true) :
    ∃ jump w4, (Instr.endLoop r).run P w = .ok jump w4 ∧ (match jump with | none => QC ρ0 s0 w0 N n kN kX .normal a w4 | some c => c.wpIn (Wd ro) 0 P (QC ρ0 s0 w0 N n kN kX) a w4) := by
  unfold endLoopS at h
  split at h
  · rename_i n' env ps x y st pend dm hg
    cases hst : Nat.beq st 1 with
    | true => rw [hst, cond_true] at h; simp [failB] at h
    | false =>
      rw [hst, cond_false] at h
      have hL := H.live _ _ _ _ hb
      rw [hg] at hL
      obtain ⟨l, r', base', e', h1, h2, h3, h4, h5, h6, h7, h8, h9, h10⟩ := hL
      have hw : writable (s.h.get b) = true := by rw [hg]; rfl
      have hrun := run_endLoop (P := P) h1 (by rw [h7]; exact loopSt_busy hst)
      have HP := H.put (blk := .none) (o := .loop { l with state := .exhausted }) hb hw (by simp [BR])
      have hE' := hE.trans (Ext.put H hb .none)
      have hB' := hB.trans (Below.putB (w := w) (r := r) (o := .loop { l with state := .exhausted }) (H.low _ _ _ _ hb hw))
      generalize putB w r (.loop { l with state := .exhausted }) = W at hrun HP hB'
      refine ⟨_, _, hrun, ?_⟩
      rw [h8]
      split at h
      · exact ⟨ρ, fr, _, hF, HP, hE', hB', h⟩
      · exact wpIn_ret ⟨ρ, fr, _, hF, HP, hE', hB', h⟩
      · exact wpIn_exit ⟨ρ, fr, _, hF, HP, hE', hB', h⟩
      · simp [failB] at h
  · simp [failB] at h
theorem rangeF_sound (hC : CallSound I P callF) {rd : Option Nat} {n : Nat} {ih : IH} {g : Operand} {ps : Array Tmp} {x y : Code} {fr : Fr} {s : St} {kN : KN} {kX : KX} (h : cdRange rd n g ps x y P ih callF fr s kX kN = true)
    {ρ : Rho} {N : Bound I} {ro : Option Nat} {a : Act} {w : World} (hro : RdR ρ rd ro) (hok : opdOk P.globals.size g = true) (hF : FrR ρ n fr a) (H : Rel ρ N s w) (hG : Glob P.globals.size ρ) :
    (Code.rangeFunc g ps x y).wpIn (Wd ro) 0 P (QC ρ s w N n kN kX) a w := by
  unfold cdRange at h
  split at h
  · rename_i f first cap he
    cases hen : entersB P f with
    | false => rw [hen] at h; simp [failB] at h
    | true =>
      rw [hen, cond_true] at h
      have hor := OR.eval (G := P.globals.size) hF.env hG g (fun g' hg => by subst hg; exact Nat.le_of_ble_eq_true hok)
      have hv := hor (by rw [he]; simp)
      rw [he] at hv
      simp only [VR] at hv
      obtain ⟨a', c', ha, hc, hre⟩ := hv
      split at h
      · have hro' : ro = none := by cases ro with
          | none => rfl
          | some _ => exact hro.elim
        subst hro'
        refine wpIn_rangeFunc fun fn _ => ?_
        have H1 : Rel (ρ.add s.nx (w.heap.size, 0, 0)) N (s.new .dm) (newB w (.deferred (some []))) := H.new (by simp [BR])
        have E1 := Ext.new H .dm (w.heap.size, 0, 0)
        have H2 : Rel ((ρ.add s.nx (w.heap.size, 0, 0)).add (s.new .dm).nx ((newB w (.deferred (some []))).heap.size, 0, 0)) N ((s.new .dm).new (.lp n fr.env ps x y 0 none s.nx)) (newB (newB w (.deferred (some []))) (.loop { state := .ready, pending := none, fn, tmps := a.tmps, params := ps, assign := x, body := y, defers := w.heap.size })) :=
          H1.new (by
            simp only [BR]
            exact ⟨_, w.heap.size, 0, 0, rfl, hF.size, fun t ht => (hF.mono E1.le).env t ht, rfl, rfl, rfl, rfl, rfl, Rho.add_self _ _ _, rfl⟩)
        have E2 := Ext.new H1 (.lp n fr.env ps x y 0 none s.nx) ((newB w (.deferred (some []))).heap.size, 0, 0)
        have E12 := E1.trans E2
        have B1 : Below N w (newB w (.deferred (some []))) := Below.newB H.size
        have B2 := B1.trans (Below.newB (o := .loop { state := .ready, pending := none, fn, tmps := a.tmps, params := ps, assign := x, body := y, defers := w.heap.size }) H1.size)
        have hsz : (newB w (.deferred (some []))).heap.size = w.heap.size + 1 := by simp [newB]
        have hargs : VRs ((ρ.add s.nx (w.heap.size, 0, 0)).add (s.new .dm).nx ((newB w (.deferred (some []))).heap.size, 0, 0)) (first ++ [.yld (Nat.succ s.nx)] ++ cap) (a' ++ [Value.func (.yield (w.heap.size + 1)) #[] #[]] ++ c') := by
          refine (VRs.append (VRs.mono E12.le _ _ ha) (VRs.cons ?_ VRs.nil)).append (VRs.mono E12.le _ _ hc)
          simp only [VR]
          exact ⟨w.heap.size + 1, 0, 0, by rw [← hsz]; exact Rho.add_self _ _ _, rfl⟩
        have hcall := hC.f f _ _ _ _ h _ N _ _ H2 (hG.mono E12.le) hargs
        refine ⟨w.heap.size + 1, [{ target := .collected w.heap.size, args := #[] }], (newB (newB w (.deferred (some []))) (.loop { state := .ready, pending := none, fn, tmps := a.tmps, params := ps, assign := x, body := y, defers := w.heap.size })), { target := .fn (.func f) c'.toArray, args := a'.toArray ++ #[Value.func (.yield (w.heap.size + 1)) #[] #[]] }, (newB (newB w (.deferred (some []))) (.loop { state := .ready, pending := none, fn, tmps := a.tmps, params := ps, assign := x, body := y, defers := w.heap.size })), f, (a' ++ [Value.func (.yield (w.heap.size + 1)) #[] #[]] ++ c').toArray, (newB (newB w (.deferred (some []))) (.loop { state := .ready, pending := none, fn, tmps := a.tmps, params := ps, assign := x, body := y, defers := w.heap.size })), run_enter_none, ?_, fun _ _ => trivial, ?_, (fun h => by cases h), ?_⟩
        · simp only [resolve, rangeCall, hre, Deferred.ofValue, Sem.run_bind, Sem.run_pure, Result.andThen_ok]; simp [Act.eval]
        · have := entersB_run hen ((a' ++ [Value.func (.yield (w.heap.size + 1)) #[] #[]] ++ c').toArray) (newB (newB w (.deferred (some []))) (.loop { state := .ready, pending := none, fn, tmps := a.tmps, params := ps, assign := x, body := y, defers := w.heap.size }))
          simp only [invoke]
          rw [← this]
          congr 2
          simp
        · rcases hcall with ⟨_, h3⟩ | ⟨v, w', h2, _⟩
          · refine Wd.callsIn (Calls.mono h3 fun e w' he => ?_)
            cases e with
            | returned v =>
              obtain ⟨ρ', s1, x1, q1, q2, q3, q4, q5⟩ := he
              have hl := q3.le _ _ (by rw [← hsz]; exact Rho.add_self _ _ _ : ((ρ.add s.nx (w.heap.size, 0, 0)).add (s.new .dm).nx ((newB w (.deferred (some []))).heap.size, 0, 0)) (Nat.succ s.nx) = some (w.heap.size + 1, 0, 0))
              have hm : ((ρ.add s.nx (w.heap.size, 0, 0)).add (s.new .dm).nx ((newB w (.deferred (some []))).heap.size, 0, 0)) s.nx = some (w.heap.size, 0, 0) := E2.le _ _ (Rho.add_self _ _ _)
              have hF' : FrR ρ' n ⟨fr.env, .mark s.nx :: fr.ds⟩ { a with defers := [{ target := .collected w.heap.size, args := #[] }] ++ a.defers } :=
                ⟨(hF.mono (Rho.le_trans E12.le q3.le)).env, hF.size, w.heap.size, 0, 0, a.defers, q3.le _ _ hm, rfl, (hF.mono (Rho.le_trans E12.le q3.le)).dfr⟩
              exact endLoop_sound hl hF' q2 (E12.trans q3) (B2.trans q4) q5
            | panicked chain =>
              obtain ⟨ρ', s1, x1, v, rfl, q1, q2, q3, q4, q5⟩ := he
              have hm : ((ρ.add s.nx (w.heap.size, 0, 0)).add (s.new .dm).nx ((newB w (.deferred (some []))).heap.size, 0, 0)) s.nx = some (w.heap.size, 0, 0) := E2.le _ _ (Rho.add_self _ _ _)
              have hF' : FrR ρ' n ⟨fr.env, .mark s.nx :: fr.ds⟩ { a with defers := [{ target := .collected w.heap.size, args := #[] }] ++ a.defers } :=
                ⟨(hF.mono (Rho.le_trans E12.le q3.le)).env, hF.size, w.heap.size, 0, 0, a.defers, q3.le _ _ hm, rfl, (hF.mono (Rho.le_trans E12.le q3.le)).dfr⟩
              exact ⟨ρ', _, s1, x1, v, rfl, q1, hF', q2, E12.trans q3, B2.trans q4, q5⟩
            | outgrown => exact he.elim
          · rw [entersB_run hen] at h2; cases h2
      · rename_i l
        split at h
        · rename_i n' env' ps' x' y' st' pend' dm hg
          obtain ⟨r, rfl⟩ : ∃ r, ro = some r := by cases ro with
            | none => exact hro.elim
            | some r => exact ⟨r, rfl⟩
          obtain ⟨base, e, hl⟩ := hro
          have hL := H.live _ _ _ _ hl
          rw [hg] at hL
          obtain ⟨lo, r', base', e', h1, h2, h3, h4, h5, h6, h7, h8, h9, h10⟩ := hL
          refine wpIn_rangeFunc fun fn _ => ?_
          have H2 : Rel (ρ.add s.nx (w.heap.size, 0, 0)) N (s.new (.lp n fr.env ps x y 0 none dm)) (newB w (.loop { state := .ready, pending := none, fn, tmps := a.tmps, params := ps, assign := x, body := y, defers := lo.defers })) :=
            H.new (by
              simp only [BR]
              exact ⟨_, r', base', e', rfl, hF.size, fun t ht => hF.env t ht, rfl, rfl, rfl, rfl, rfl, h9, h10⟩)
          have E2 := Ext.new H (.lp n fr.env ps x y 0 none dm) (w.heap.size, 0, 0)
          have B2 := Below.newB (o := .loop { state := .ready, pending := none, fn, tmps := a.tmps, params := ps, assign := x, body := y, defers := lo.defers }) H.size
          have hargs : VRs (ρ.add s.nx (w.heap.size, 0, 0)) (first ++ [.yld s.nx] ++ cap) (a' ++ [Value.func (.yield w.heap.size) #[] #[]] ++ c') := by
            refine (VRs.append (VRs.mono E2.le _ _ ha) (VRs.cons ?_ VRs.nil)).append (VRs.mono E2.le _ _ hc)
            simp only [VR]
            exact ⟨w.heap.size, 0, 0, Rho.add_self _ _ _, rfl⟩
          have hcall := hC.f f _ _ _ _ h _ N _ _ H2 (hG.mono E2.le) hargs
          refine ⟨w.heap.size, [], (newB w (.loop { state := .ready, pending := none, fn, tmps := a.tmps, params := ps, assign := x, body := y, defers := lo.defers })), { target := .fn (.func f) c'.toArray, args := a'.toArray ++ #[Value.func (.yield w.heap.size) #[] #[]] }, (newB w (.loop { state := .ready, pending := none, fn, tmps := a.tmps, params := ps, assign := x, body := y, defers := lo.defers })), f, (a' ++ [Value.func (.yield w.heap.size) #[] #[]] ++ c').toArray, (newB w (.loop { state := .ready, pending := none, fn, tmps := a.tmps, params := ps, assign := x, body := y, defers := lo.defers })), run_enter_some h1, ?_, fun _ _ => trivial, ?_, (fun h => by cases h), ?_⟩
          · simp only [resolve, rangeCall, hre, Deferred.ofValue, Sem.run_bind, Sem.run_pure, Result.andThen_ok]; simp [Act.eval]
          · have := entersB_run hen ((a' ++ [Value.func (.yield w.heap.size) #[] #[]] ++ c').toArray) (newB w (.loop { state := .ready, pending := none, fn, tmps := a.tmps, params := ps, assign := x, body := y, defers := lo.defers }))
            simp only [invoke]
            rw [← this]
            congr 2
            simp
          · rcases hcall with ⟨_, h3⟩ | ⟨v, w', h2, _⟩
            · refine Wd.callsIn (Calls.mono h3 fun e w' he => ?_)
              cases e with
              | returned v =>
                obtain ⟨ρ', s1, x1, q1, q2, q3, q4, q5⟩ := he
                have hl' := q3.le _ _ (Rho.add_self ρ s.nx (w.heap.size, 0, 0))
                exact endLoop_sound hl' (hF.mono (Rho.le_trans E2.le q3.le)) q2 (E2.trans q3) (B2.trans q4) q5
              | panicked chain =>
                obtain ⟨ρ', s1, x1, v, rfl, q1, q2, q3, q4, q5⟩ := he
                exact ⟨ρ', _, s1, x1, v, rfl, q1, hF.mono (Rho.le_trans E2.le q3.le), q2, E2.trans q3, B2.trans q4, q5⟩
              | outgrown => exact he.elim
            · rw [entersB_run hen] at h2; cases h2
        · simp [failB] at h
  · simp [failB] at h
theorem code_step (hM : P.follows .mixedOrders = true) (hP : PH P E) (hC : CallSound I P callF) {rd : Option Nat} {n : Nat} {ih : IH} (hI : CodeSound I P rd n ih) {m : Nat} (hL : ∀ (c : Code) (fr : Fr) (s : St) (kN : KN) (kX : KX), ih (.loop c) fr s kN kX = true →
      ∀ (ρ : Rho) (N : Bound I) (ro : Option Nat) (a : Act) (w : World), RdR ρ rd ro → codeOk n P.globals.size c = true → (rd ≠ none → noDfr c = true) → FrR ρ n fr a → Rel ρ N s w → Glob P.globals.size ρ → Code.roundsIn (Wd ro) 0 P c (QC ρ s w N n kN kX) m a w) :
    CodeSound I P rd n (fun c fr s kN kX => stepC rd n E c P ih callF fr s kN kX) ∧ (∀ (c : Code) (fr : Fr) (s : St) (kN : KN) (kX : KX), stepC rd n E (.loop c) P ih callF fr s kN kX = true →
      ∀ (ρ : Rho) (N : Bound I) (ro : Option Nat) (a : Act) (w : World), RdR ρ rd ro → codeOk n P.globals.size c = true → (rd ≠ none → noDfr c = true) → FrR ρ n fr a → Rel ρ N s w → Glob P.globals.size ρ → Code.roundsIn (Wd ro) 0 P c (QC ρ s w N n kN kX) (m + 1) a w) := by
  have hloop : ∀ (c : Code) (fr : Fr) (s : St) (kN : KN) (kX : KX), stepC rd n E (.loop c) P ih callF fr s kN kX = true →
      ∀ (ρ : Rho) (N : Bound I) (ro : Option Nat) (a : Act) (w : World), RdR ρ rd ro → codeOk n P.globals.size c = true → (rd ≠ none → noDfr c = true) → FrR ρ n fr a → Rel ρ N s w → Glob P.globals.size ρ → Code.roundsIn (Wd ro) 0 P c (QC ρ s w N n kN kX) (m + 1) a w := by
    intro c fr s kN kX h ρ N ro a w hro hok hnd hF H hG
    simp only [stepC, cdLoop] at h
    show c.wpIn (Wd ro) 0 P (Exit.then (Code.roundsIn (Wd ro) 0 P c (QC ρ s w N n kN kX) m) (QC ρ s w N n kN kX)) a w
    refine wpIn_mono (hI c fr s _ _ h ρ N ro a w hro hok hnd hF H hG) fun e a1 w1 he => ?_
    cases e with
    | normal =>
      obtain ⟨ρ1, fr1, s1, h1, h2, h3, h4, h5⟩ := he
      exact rounds_mono (fun e a w q => QC.trans h3 h4 q) m a1 w1 (hL c fr1 s1 kN kX h5 ρ1 N ro a1 w1 (hro.mono h3.le) hok hnd h1 h2 (hG.mono h3.le))
    | exit i => exact he
    | ret => exact he
    | panic chain => exact he
    | goto l => exact he
    | outgrown => exact he
  refine ⟨?_, hloop⟩
  intro c fr s kN kX h ρ N ro a w hro hok hnd hF H hG
  have stop : QC ρ s w N n kN kX = QC ρ s w N n kN kX := rfl
  cases c with
  | skip => exact wpIn_skip ⟨ρ, fr, s, hF, H, Ext.refl ρ s, Below.refl N w, h⟩
  | label l => exact wpIn_label ⟨ρ, fr, s, hF, H, Ext.refl ρ s, Below.refl N w, h⟩
  | region id ops draw =>
    simp only [stepC, cdRegion] at h
    cases draw with
    | true => rw [cond_true] at h; exact region_sound hM hP hC h hok (fun hx => hnd (hro.ne hx)) hF H hG
    | false =>
      rw [cond_false] at h
      refine wpIn_region ?_
      have := evOps_sound hP hC (ρ0 := ρ) (s0 := s) (w0 := w) ops.toList 0 fr s (fun j => by simp) hok (fun hx => hnd (hro.ne hx)) h ρ a w hF H hG (Ext.refl ρ s) (Below.refl N w)
      simpa using this
  | seq x y =>
    simp only [stepC, cdSeq] at h
    simp only [codeOk, Bool.and_eq_true] at hok
    refine wpIn_seq (wpIn_mono (hI x fr s _ _ h ρ N ro a w hro hok.1 (fun hx => by have := hnd hx; simp only [noDfr, Bool.and_eq_true] at this; exact this.1) hF H hG) fun e a1 w1 he => ?_)
    cases e with
    | normal =>
      obtain ⟨ρ1, fr1, s1, h1, h2, h3, h4, h5⟩ := he
      exact wpIn_mono (hI y fr1 s1 _ _ h5 ρ1 N ro a1 w1 (hro.mono h3.le) hok.2 (fun hx => by have := hnd hx; simp only [noDfr, Bool.and_eq_true] at this; exact this.2) h1 h2 (hG.mono h3.le)) fun e a w q => QC.trans h3 h4 q
    | exit i => exact he
    | ret => exact he
    | panic chain => exact he
    | goto l => exact he
    | outgrown => exact he
  | cond c x y =>
    simp only [stepC, cdCond] at h
    simp only [codeOk, Bool.and_eq_true] at hok
    split at h
    · rename_i t ht
      have hor := OR.eval (G := P.globals.size) hF.env hG c (fun g hg => by subst hg; exact Nat.le_of_ble_eq_true hok.1)
      have hv := hor (by rw [ht]; simp)
      rw [ht] at hv
      simp only [VR] at hv
      refine wpIn_cond hv ?_
      have := hI _ fr s _ _ h ρ N ro a w hro (by cases t; exact hok.2.2; exact hok.2.1) (fun hx => by have := hnd hx; simp only [noDfr, Bool.and_eq_true] at this; cases t; exact this.2; exact this.1) hF H hG
      cases t <;> exact this
    · simp [failB] at h
  | block id c =>
    simp only [stepC, cdBlock] at h
    refine wpIn_block (wpIn_mono (hI c fr s _ _ h ρ N ro a w hro hok hnd hF H hG) fun e a1 w1 he => ?_)
    cases e with
    | normal => exact he
    | exit i =>
      obtain ⟨ρ1, fr1, s1, h1, h2, h3, h4, h5⟩ := he
      simp only [afterBlock] at h5
      show (if i = id then QC ρ s w N n kN kX .normal a1 w1 else QC ρ s w N n kN kX (.exit i) a1 w1)
      cases hb : Nat.beq i id with
      | true => rw [hb] at h5; rw [if_pos (Nat.eq_of_beq_eq_true hb)]; exact ⟨ρ1, fr1, s1, h1, h2, h3, h4, h5⟩
      | false =>
        rw [hb] at h5
        rw [if_neg (fun e => by subst e; simp at hb)]
        exact ⟨ρ1, fr1, s1, h1, h2, h3, h4, h5⟩
    | ret => exact he
    | panic chain => exact he
    | goto l => exact he
    | outgrown => exact he
  | loop c => exact wpIn_loop_rounds (m + 1) (hloop c fr s kN kX h ρ N ro a w hro hok hnd hF H hG)
  | exit id => exact wpIn_exit ⟨ρ, fr, s, hF, H, Ext.refl ρ s, Below.refl N w, h⟩
  | ret => exact wpIn_ret ⟨ρ, fr, s, hF, H, Ext.refl ρ s, Below.refl N w, h⟩
  | rangeFunc g ps x y =>
    simp only [stepC] at h
    simp only [codeOk, Bool.and_eq_true] at hok
    exact rangeF_sound hC h hro hok.1 hF H hG
  | scope c =>
    simp only [stepC, cdScope] at h
    refine wpIn_scope_straight (wpIn_mono (hI c fr s _ _ h ρ N ro a w hro hok hnd hF H hG) fun e a1 w1 he => ?_)
    cases e with
    | goto l => exact he
    | normal => exact he
    | exit i => exact he
    | ret => exact he
    | panic chain => exact he
    | outgrown => exact he
  | goto l => simp [stepC, cdNo, failB] at h
  | refuse y => simp [stepC, cdNo, failB] at h
end Go.Sh
namespace Go.Sh
variable [Opq]
open Go.RowKit (Below)
variable {I : Rho → World → Prop}
variable {P : Program} {E : EE} {callF : CallF}

/-! ## arguments -/
theorem bindArgs_get : ∀ (args : List SV) (i : Nat) (env : En) (t : Nat), (bindArgs args i env).get t ≠ .bad →
    (i ≤ t ∧ args[t - i]? = some ((bindArgs args i env).get t)) ∨ ((bindArgs args i env).get t = env.get t)
  | [], i, env, t, _ => .inr rfl
  | v :: vs, i, env, t, h => by
    simp only [bindArgs] at h ⊢
    rcases bindArgs_get vs (Nat.succ i) (env.set i v) t h with ⟨h1, h2⟩ | h2
    · left
      refine ⟨by omega, ?_⟩
      have : t - i = (t - (i + 1)) + 1 := by omega
      rw [this, List.getElem?_cons_succ]
      exact h2
    · by_cases e : t = i
      · subst e
        rw [h2] at h ⊢
        rcases En.get_set_eq env t v with hg | hg
        · left; rw [hg]; exact ⟨Nat.le_refl _, by simp⟩
        · exact absurd hg h
      · right; rw [h2, En.get_set_ne _ _ _ _ e]
theorem args_env {ρ : Rho} {args : List SV} {args' : List Value} (h : VRs ρ args args') (n : Nat) : EnvR ρ (bindArgs args 0 .e) { tmps := args'.toArray ++ Array.replicate (n - args'.toArray.size) undef, defers := [] } := by
  intro t ht
  rcases bindArgs_get args 0 .e t ht with ⟨_, h2⟩ | h2
  · obtain ⟨v, h3, h4⟩ := h.get _ _ h2
    rw [Nat.sub_zero] at h3
    have hlt := (List.getElem?_eq_some_iff.1 h3).1
    exact ⟨v, by rw [Array.getElem?_append_left (by simpa using hlt)]; simpa using h3, h4⟩
  · rw [h2] at ht; exact absurd (En.get_e t) ht

/-! ## results -/
theorem results_sound {ρ : Rho} {N : Bound I} {n : Nat} {s : St} {w : World} {fr : Fr} {a : Act} (hF : FrR ρ n fr a) (H : Rel ρ N s w) : ∀ (rs : List ResultVar), anyBad (resS P fr.env s rs) = false →
    ∃ vs : List Value, (rs.mapM (m := Sem) fun | .tmp t => pure (a.tmps.getD t undef) | .cell c t => do loadVar t (← asAddr (a.tmps.getD c undef))).run P w = .ok vs w ∧ VRs ρ (resS P fr.env s rs) vs
  | [], _ => ⟨[], by simp, VRs.nil⟩
  | r :: rs, h => by
    cases r with
    | tmp t =>
      simp only [resS, anyBad] at h
      cases hb : isBad (fr.env.get t) with
      | true => rw [hb] at h; simp at h
      | false =>
        rw [hb, cond_false] at h
        obtain ⟨v, h1, h2⟩ := hF.env t (isBad_false hb)
        obtain ⟨vs, h3, h4⟩ := results_sound hF H rs h
        refine ⟨v :: vs, ?_, VRs.cons h2 h4⟩
        have hv : a.tmps.getD t undef = v := by simp [h1]
        simp only [List.mapM_cons, Sem.run_bind, Sem.run_pure, Result.andThen_ok, h3, hv]
    | cell c t =>
      simp only [resS, anyBad] at h
      cases hb : isBad (loadS P s t (fr.env.get c)) with
      | true => rw [hb] at h; simp at h
      | false =>
        rw [hb, cond_false] at h
        have hne := isBad_false hb
        have hcb : fr.env.get c ≠ .bad := fun e => by rw [e] at hne; simp [loadS] at hne
        obtain ⟨u, h1, h2⟩ := hF.env c hcb
        obtain ⟨v, h5, h6⟩ := loadS_sound (P := P) H (fun _ => h2) hne
        obtain ⟨vs, h3, h4⟩ := results_sound hF H rs h
        refine ⟨v :: vs, ?_, VRs.cons h6 h4⟩
        have hv : a.tmps.getD c undef = u := by simp [h1]
        -- the address
        have hptr : ∃ b off, fr.env.get c = .ptr b off := by
          unfold loadS at hne
          split at hne
          · rename_i b off hp; exact ⟨b, off, hp⟩
          · exact absurd rfl hne
        obtain ⟨b, off, hp⟩ := hptr
        rw [hp] at h2
        simp only [VR] at h2
        obtain ⟨r1, base, e1, _, rfl⟩ := h2
        have h5' : (loadVar t ⟨r1, base + off, none⟩).run P w = .ok v w := by simpa [Instr.loadAt, Instr.sureAddr] using h5
        have hA : (asAddr (.pointer (some ⟨r1, base + off, none⟩))).run P w = .ok ⟨r1, base + off, none⟩ w := rfl
        simp only [List.mapM_cons, Sem.run_bind, hv, hA, Sem.run_pure, Result.andThen_ok, h5', h3]
theorem packR_sound {ρ : Rho} {xs : List SV} {vs : List Value} (h : VRs ρ xs vs) : VR ρ (packR xs) (if h : vs.toArray.size = 1 then vs.toArray[0] else .tuple vs.toArray) := by
  unfold packR
  split
  · rename_i x
    obtain ⟨v, rfl, hv⟩ := list1 h
    simpa using hv
  · rename_i hne
    have hl := h.len
    have : ¬ (vs.toArray.size = 1) := by
      intro e
      simp only [List.size_toArray] at e
      rw [hl] at e
      obtain ⟨x, rfl⟩ := List.length_eq_one_iff.1 e
      exact hne x rfl
    rw [dif_neg this]
    simp only [VR]
    exact ⟨vs, h, rfl⟩

/-! ## back from a call -/
theorem scal_VR {ρ ρ' : Rho} : ∀ {x : SV} {v : Value}, scal x = true → VR ρ' x v → VR ρ x v := by
  intro x v h hv
  cases x <;> simp [scal] at h <;> simpa [VR] using hv
theorem allScal_VRs {ρ ρ' : Rho} : ∀ {xs : List SV} {vs : List Value}, allScal xs = true → VRs ρ' xs vs → VRs ρ xs vs
  | [], vs, _, hv => by rw [VRs.nil_iff] at hv ⊢; exact hv
  | x :: xs, vs, h, hv => by
    simp only [allScal] at h
    cases hs : scal x with
    | false => rw [hs] at h; simp at h
    | true =>
      rw [hs, cond_true] at h
      obtain ⟨y, ys, h1, h2, rfl⟩ := hv.cons_inv
      exact VRs.cons (scal_VR hs h1) (allScal_VRs h h2)
theorem scalV_VR {ρ ρ' : Rho} {x : SV} {v : Value} (h : scalV x = true) (hv : VR ρ' x v) : VR ρ x v := by
  cases x with
  | tup vs => simp only [VR] at hv ⊢; obtain ⟨l, hl, rfl⟩ := hv; exact ⟨l, allScal_VRs h hl, rfl⟩
  | agg vs => simp only [VR] at hv ⊢; obtain ⟨l, hl, rfl⟩ := hv; exact ⟨l, allScal_VRs h hl, rfl⟩
  | _ => exact scal_VR h hv
theorem Ext.of_big {ρ ρ' : Rho} {s s' : St} (h : Ext ρ ⟨s.h, s.nx, big⟩ ρ' s') : Ext ρ s ρ' ⟨s'.h, s'.nx, minN s.lo s'.lo⟩ where
  le := h.le
  keep := h.keep
  nx := h.nx
  lo := by show minN s.lo s'.lo ≤ s.lo; rw [minN_eq]; omega
  same b hb hl := h.same b hb (by have hl' : b < minN s.lo s'.lo := hl; rw [minN_eq] at hl'; omega)
/-- nothing older was written: the old state stands -/
theorem Rel.back {ρ ρ' : Rho} {N : Bound I} {s s' : St} {w w' : World} (H : Rel ρ N s w) (H' : Rel ρ' N s' w') (hE : Ext ρ ⟨s.h, s.nx, big⟩ ρ' s') (hlo : s.nx ≤ s'.lo) (hB : RowKit.Below N w w') : Rel ρ N s w' where
  fresh := H.fresh
  live b r base e hb := by
    have hlt : b < s.nx := by
      rcases Nat.lt_or_ge b s.nx with h | h
      · exact h
      · rw [H.fresh b h] at hb; cases hb
    have h1 := H.live b r base e hb
    have h2 := H'.live b r base e (hE.le b _ hb)
    have h3 : s'.h.get b = s.h.get b := hE.same b hlt (by omega)
    rw [h3] at h2
    exact BR.back hE.le h1 h2
  bound b r base e hb := H'.bound b r base e (hE.le b _ hb)
  low b r base e hb hw := H.low b r base e hb hw
  inj := H.inj
  size := H'.size
  inv := N.stable _ _ _ _ H.inv (Rho.le_refl ρ) hB
end Go.Sh
namespace Go.Sh
variable [Opq]
open Go.RowKit (Below)
variable {I : Rho → World → Prop}
variable {P : Program} {E : EE} {callF : CallF}

theorem enter_body {f : FuncId} {fn : Func} {c : Code} (hb : bodyOf P f = some (fn, c)) : P.funcs[f]? = some fn ∧ fn.body = some c ∧ codeOk fn.ntmps P.globals.size c = true ∧ fn.name ≠ "runtime.NumGoroutine" := by
  unfold bodyOf at hb
  split at hb
  · rename_i fn' hf
    split at hb
    · rename_i c' hbody
      cases hc : (codeOk fn'.ntmps P.globals.size c' && !(fn'.name == "runtime.NumGoroutine")) with
      | false => rw [hc] at hb; simp at hb
      | true =>
        rw [hc] at hb
        cases hb
        rw [Bool.and_eq_true, Bool.not_eq_true'] at hc
        exact ⟨hf, hbody, hc.1, by simpa using hc.2⟩
    · cases hb
  · cases hb
/-- how a frame that is left is on its way -/
def UR (ρ : Rho) (u : SV × Bool) (m : FrameMode) : Prop := (u.1 = .nili ∧ m = .returning) ∨ (isNili u.1 = false ∧ ∃ v, VR ρ u.1 v ∧ m = .panicking [{ v, recovered := u.2 }])
theorem UR.mono {ρ ρ' : Rho} (h : ρ.le ρ') {u : SV × Bool} {m : FrameMode} (hu : UR ρ u m) : UR ρ' u m := by
  rcases hu with h1 | ⟨h1, v, h2, h3⟩
  · exact .inl h1
  · exact .inr ⟨h1, v, VR.mono h _ _ h2, h3⟩
theorem isNili_eq {x : SV} (h : isNili x = true) : x = .nili := by cases x <;> first | rfl | (simp [isNili] at h)
theorem UR.settle {ρ : Rho} {u : SV × Bool} {m : FrameMode} (h : UR ρ u m) : UR ρ (settleS u) (Go.settle m) := by
  obtain ⟨x, r⟩ := u
  rcases h with ⟨h1, rfl⟩ | ⟨h1, v, h2, rfl⟩
  · simp only at h1
    subst h1
    cases r <;> exact .inl ⟨rfl, rfl⟩
  · cases r with
    | true => exact .inl ⟨rfl, rfl⟩
    | false => exact .inr ⟨h1, v, h2, rfl⟩

/-- what is asked at the end of a piece of a deferred function's code -/
def QD (ρ0 : Rho) (s0 : St) (w0 : World) (N : Bound I) (n : Nat) (kN : KD) (kX : KDX) (c0 : Frame) (cs0 : List Frame) : Exit → Act → List Frame → World → Prop
  | .normal, a, cs, w => ∃ ρ fr u m s, cs = { c0 with mode := m } :: cs0 ∧ UR ρ u m ∧ FrR ρ n fr a ∧ Rel ρ N s w ∧ Ext ρ0 s0 ρ s ∧ Below N w0 w ∧ kN fr u s = true
  | .exit i, a, cs, w => ∃ ρ fr u m s, cs = { c0 with mode := m } :: cs0 ∧ UR ρ u m ∧ FrR ρ n fr a ∧ Rel ρ N s w ∧ Ext ρ0 s0 ρ s ∧ Below N w0 w ∧ kX (.exit i) fr u s = true
  | .ret, a, cs, w => ∃ ρ fr u m s, cs = { c0 with mode := m } :: cs0 ∧ UR ρ u m ∧ FrR ρ n fr a ∧ Rel ρ N s w ∧ Ext ρ0 s0 ρ s ∧ Below N w0 w ∧ kX .ret fr u s = true
  | .panic chain, a, cs, w => ∃ ρ fr u m s x v, chain = [{ v, recovered := false }] ∧ VR ρ x v ∧ cs = { c0 with mode := m } :: cs0 ∧ UR ρ u m ∧ FrR ρ n fr a ∧ Rel ρ N s w ∧ Ext ρ0 s0 ρ s ∧ Below N w0 w ∧ kX (.panic x) fr u s = true
  | _, _, _, _ => False

/-- what is done with an operation's outcome, in a deferred function -/
theorem outRD_sound (hC : CallSound I P callF) {ρ : Rho} {N : Bound I} {s : St} {w : World} {k0 : Prop} {res : Result Next} {r : R} {o : Oper} {pos : String} {fr : Fr} {kN : KN} {kX : KX} {a : Act} {next : Act → World → Prop} {Q : Exit → Act → World → Prop}
    (H : Rel ρ N s w) (hG : Glob P.globals.size ρ) (hr : RR P ρ N s w k0 res r) (hout : outR callF o.dst pos r fr kN kX = true)
    (hnr : ∀ b args s, r ≠ .rnd b args s)
    (hnext : ∀ ρ' s' w' x v, VR ρ' x v → Rel ρ' N s' w' → Ext ρ s ρ' s' → Below N w w' → kN (fr.put o.dst x) s' = true → next (a.put o.dst v) w')
    (hpan : ∀ ρ' s' w' x v, VR ρ' x v → Rel ρ' N s' w' → Ext ρ s ρ' s' → Below N w w' → kX (.panic x) fr s' = true → Q (.panic [{ v, recovered := false }]) a w')
    (hdfr : ∀ f args (a' c' : List Value), VRs ρ args (a' ++ c') → kN (Fr.put ⟨fr.env, .fn f args :: fr.ds⟩ o.dst (.tup [])) s = true →
      next (Act.put { a with defers := { target := .fn (.func f) c'.toArray, args := a'.toArray } :: a.defers } o.dst undef) w) :
    o.upon P a next Q res := by
  cases r with
  | v x s' =>
    obtain ⟨ρ', v, w', rfl, h1, h2, h3, h4, _⟩ := hr
    exact hnext ρ' s' w' x v h1 h2 h3 h4 hout
  | skip s' =>
    obtain ⟨ρ', w', rfl, h2, h3, h4⟩ := hr
    exact hnext ρ' s' w' _ _ vrUndef h2 h3 h4 hout
  | call f args s' =>
    obtain ⟨rfl, args', h1, rfl⟩ := hr
    simp only [outR] at hout
    rcases hC.f f args s' _ _ hout ρ N w args' H hG h1 with ⟨h2, h3⟩ | ⟨v, w', h2, ρ', s1, x, h3, h4, h5, h6, h7⟩
    · rw [h2, Oper.upon_enter]
      refine Calls.mono h3 fun e w' he => ?_
      cases e with
      | returned v =>
        obtain ⟨ρ', s1, x, q1, q2, q3, q4, q5⟩ := he
        exact hnext ρ' s1 w' x v q1 q2 q3 q4 q5
      | panicked chain =>
        obtain ⟨ρ', s1, x, v, rfl, q1, q2, q3, q4, q5⟩ := he
        exact hpan ρ' s1 w' x v q1 q2 q3 q4 q5
      | outgrown => exact he.elim
    · rw [h2]
      exact hnext ρ' s1 w' x v h3 h4 h5 h6 h7
  | rnd b args s' => exact absurd rfl (hnr b args s')
  | dfr f args s' =>
    obtain ⟨rfl, a', c', h1, rfl⟩ := hr
    exact hdfr f args a' c' h1 hout
  | rcv s' => simp [outR, failB] at hout
  | pan x s' =>
    obtain ⟨rfl, v, rfl, h1⟩ := hr
    exact hpan ρ s' w x v h1 H (Ext.refl ρ s') (Below.refl N w) hout
  | fork x s1 y s2 =>
    simp only [outR] at hout
    cases hb : kN (fr.put o.dst x) s1 with
    | false => rw [hb] at hout; simp at hout
    | true =>
      rw [hb] at hout
      simp at hout
      rcases hr with hr | hr
      · obtain ⟨ρ', v, w', rfl, h1, h2, h3, h4, _⟩ := hr
        exact hnext ρ' s1 w' x v h1 h2 h3 h4 hb
      · obtain ⟨ρ', v, w', rfl, h1, h2, h3, h4, _⟩ := hr
        exact hnext ρ' s2 w' y v h1 h2 h3 h4 hout
  | bad why => simp [outR, failB] at hout

theorem evOpsD_sound (hP : PH P E) (hC : CallSound I P callF) {n : Nat} {N : Bound I} {ops : Array Oper} {kN : KD} {kX : KDX} {ρ0 : Rho} {s0 : St} {w0 : World} {c0 : Frame} {cs0 : List Frame} : ∀ (os : List Oper) (k : Nat) (fr : Fr) (u : SV × Bool) (s : St), (∀ j : Nat, os[j]? = ops[k + j]?) → os.all (operOk n P.globals.size) = true →
    evOpsD E P callF ops os fr u s kN kX = true → ∀ (ρ : Rho) (a : Act) (m : FrameMode) (w : World), UR ρ u m → FrR ρ n fr a → Rel ρ N s w → Glob P.globals.size ρ → Ext ρ0 s0 ρ s → Below N w0 w →
    wpOpsS P ops (QD ρ0 s0 w0 N n kN kX c0 cs0) ((List.range os.length).map (k + ·)) a ({ c0 with mode := m } :: cs0) w
  | [], k, fr, u, s, _, _, hev, ρ, a, m, w, hU, hF, H, hG, hE, hB => by
    simp only [evOpsD] at hev
    exact ⟨ρ, fr, u, m, s, rfl, hU, hF, H, hE, hB, hev⟩
  | o :: os, k, fr, u, s, hj, hok, hev, ρ, a, m, w, hU, hF, H, hG, hE, hB => by
    simp only [List.all_cons, Bool.and_eq_true] at hok
    have hop := hok.1
    unfold operOk at hop
    rw [Bool.and_eq_true] at hop
    have ho : ops[k]? = some o := by have := hj 0; simpa using this.symm
    have hj' : ∀ j : Nat, os[j]? = ops[k + 1 + j]? := fun j => by
      have := hj (j + 1)
      rw [List.getElem?_cons_succ] at this
      rw [this]
      congr 1
      omega
    have hlist : (List.range (o :: os).length).map (k + ·) = k :: (List.range os.length).map (k + 1 + ·) := by
      simp only [List.length_cons, List.range_succ_eq_map, List.map_cons, List.map_map, Nat.add_zero]
      congr 1
      apply List.map_congr_left
      intro j _
      simp only [Function.comp]
      omega
    rw [hlist]
    have hreal : ∀ t, t ∈ o.looksAt ops → fr.env.get t ≠ .bad → ∃ v, a.tmps[t]? = some v ∧ VR ρ (fr.env.get t) v := fun t _ ht => hF.env t ht
    have hopd := opd_of hG hop.2 hreal
    have go : ∀ (ρ' : Rho) (s' : St) (w' : World) (fr' : Fr) (a' : Act) (u' : SV × Bool) (m' : FrameMode), UR ρ' u' m' → FrR ρ' n fr' a' → Rel ρ' N s' w' → Ext ρ s ρ' s' → Below N w w' → evOpsD E P callF ops os fr' u' s' kN kX = true →
        wpOpsS P ops (QD ρ0 s0 w0 N n kN kX c0 cs0) ((List.range os.length).map (k + 1 + ·)) a' ({ c0 with mode := m' } :: cs0) w' := fun ρ' s' w' fr' a' u' m' q0 q1 q2 q3 q4 q5 =>
      evOpsD_sound hP hC os (k + 1) fr' u' s' hj' hok.2 q5 ρ' a' m' w' q0 q1 q2 (hG.mono q3.le) (hE.trans q3) (hB.trans q4)
    simp only [evOpsD] at hev
    simp only [wpOpsS, ho]
    split at hev
    · rename_i hw
      rw [wanted_sound hw hreal]
      simp only [if_true]
      have hs := exec_sound hP.eok H o hopd
      split at hev
      · -- recover
        rename_i s' hx
        rw [hx] at hs
        obtain ⟨rfl, hres⟩ := hs
        rw [hres]
        simp only
        obtain ⟨x, r⟩ := u
        rcases hU with ⟨h1, rfl⟩ | ⟨h1, v, h2, rfl⟩
        · simp only at h1
          subst h1
          have hc : (isNili (SV.nili) || r) = true := by simp [isNili]
          rw [hc, cond_true] at hev
          simp only [recoverD]
          exact go ρ s' w _ _ _ _ (.inl ⟨rfl, rfl⟩) (hF.put hop.1 (by simp [VR])) H (Ext.refl ρ s') (Below.refl N w) hev
        · simp only at h1 h2 hev
          cases r with
          | true =>
            rw [Bool.or_true, cond_true] at hev
            simp only [recoverD]
            exact go ρ s' w _ _ _ _ (.inr ⟨h1, v, h2, rfl⟩) (hF.put hop.1 (by simp [VR])) H (Ext.refl ρ s') (Below.refl N w) hev
          | false =>
            rw [h1, Bool.or_false, cond_false] at hev
            simp only [recoverD]
            exact go ρ s' w _ _ _ _ (.inr ⟨h1, v, h2, rfl⟩) (hF.put hop.1 h2) H (Ext.refl ρ s') (Below.refl N w) hev
      · simp [failB] at hev
      · simp [failB] at hev
      · rename_i hnr hnd hnrnd
        have main := outRD_sound (o := o) (a := a) (next := fun a' w' => wpOpsS P ops (QD ρ0 s0 w0 N n kN kX c0 cs0) ((List.range os.length).map (k + 1 + ·)) a' ({ c0 with mode := m } :: cs0) w') (Q := fun e a' w' => QD ρ0 s0 w0 N n kN kX c0 cs0 e a' ({ c0 with mode := m } :: cs0) w') hC H hG hs hev hnrnd
          (fun ρ' s' w' x v q1 q2 q3 q4 q5 => go ρ' s' w' _ _ _ _ (hU.mono q3.le) ((hF.mono q3.le).put hop.1 q1) q2 q3 q4 q5)
          (fun ρ' s' w' x v q1 q2 q3 q4 q5 => ⟨ρ', fr, u, m, s', x, v, rfl, q1, rfl, hU.mono q3.le, hF.mono q3.le, q2, hE.trans q3, hB.trans q4, q5⟩)
          (fun f args a' c' q1 q2 => by
            have hF' : FrR ρ n ⟨fr.env, Df.fn f args :: fr.ds⟩ { a with defers := { target := .fn (.func f) c'.toArray, args := a'.toArray } :: a.defers } := ⟨hF.env, hF.size, a', c', a.defers, q1, rfl, hF.dfr⟩
            exact go ρ s w _ _ _ _ hU (hF'.put hop.1 vrUndef) H (Ext.refl ρ s) (Below.refl N w) q2)
        split
        · rename_i w' hr
          rw [hr] at main
          exact main.elim
        · exact main
    · rename_i hw
      rw [wanted_sound hw hreal]
      simp only [Bool.false_eq_true, if_false]
      exact go ρ s w _ _ _ _ hU (hF.put hop.1 vrUndef) H (Ext.refl ρ s) (Below.refl N w) hev
    · simp [failB] at hev

theorem QD.of_QC {ρ0 ρ : Rho} {s0 s : St} {w0 w : World} {N : Bound I} {n : Nat} {kN : KD} {kX : KDX} {c0 : Frame} {cs0 : List Frame} {u : SV × Bool} {m : FrameMode} (hU : UR ρ u m) (hE : Ext ρ0 s0 ρ s) (hB : Below N w0 w) {e : Exit} {a1 : Act} {w1 : World}
    (h : QC ρ s w N n (fun fr s => kN fr u s) (fun x fr s => kX x fr u s) e a1 w1) : QD ρ0 s0 w0 N n kN kX c0 cs0 e a1 ({ c0 with mode := m } :: cs0) w1 := by
  cases e with
  | normal => obtain ⟨ρ1, fr1, s1, h1, h2, h3, h4, h5⟩ := h; exact ⟨ρ1, fr1, u, m, s1, rfl, hU.mono h3.le, h1, h2, hE.trans h3, hB.trans h4, h5⟩
  | exit i => obtain ⟨ρ1, fr1, s1, h1, h2, h3, h4, h5⟩ := h; exact ⟨ρ1, fr1, u, m, s1, rfl, hU.mono h3.le, h1, h2, hE.trans h3, hB.trans h4, h5⟩
  | ret => obtain ⟨ρ1, fr1, s1, h1, h2, h3, h4, h5⟩ := h; exact ⟨ρ1, fr1, u, m, s1, rfl, hU.mono h3.le, h1, h2, hE.trans h3, hB.trans h4, h5⟩
  | panic chain => obtain ⟨ρ1, fr1, s1, x, v, h0, h0', h1, h2, h3, h4, h5⟩ := h; exact ⟨ρ1, fr1, u, m, s1, x, v, h0, h0', rfl, hU.mono h3.le, h1, h2, hE.trans h3, hB.trans h4, h5⟩
  | goto l => exact h.elim
  | outgrown => exact h.elim
theorem QD.trans {ρ0 ρ : Rho} {s0 s : St} {w0 w : World} {N : Bound I} {n : Nat} {kN : KD} {kX : KDX} {c0 : Frame} {cs0 : List Frame} (hE : Ext ρ0 s0 ρ s) (hB : Below N w0 w) {e : Exit} {a1 : Act} {cs : List Frame} {w1 : World}
    (h : QD ρ s w N n kN kX c0 cs0 e a1 cs w1) : QD ρ0 s0 w0 N n kN kX c0 cs0 e a1 cs w1 := by
  cases e with
  | normal => obtain ⟨ρ1, fr1, u, m, s1, h0, h0', h1, h2, h3, h4, h5⟩ := h; exact ⟨ρ1, fr1, u, m, s1, h0, h0', h1, h2, hE.trans h3, hB.trans h4, h5⟩
  | exit i => obtain ⟨ρ1, fr1, u, m, s1, h0, h0', h1, h2, h3, h4, h5⟩ := h; exact ⟨ρ1, fr1, u, m, s1, h0, h0', h1, h2, hE.trans h3, hB.trans h4, h5⟩
  | ret => obtain ⟨ρ1, fr1, u, m, s1, h0, h0', h1, h2, h3, h4, h5⟩ := h; exact ⟨ρ1, fr1, u, m, s1, h0, h0', h1, h2, hE.trans h3, hB.trans h4, h5⟩
  | panic chain => obtain ⟨ρ1, fr1, u, m, s1, x, v, g0, g1, h0, h0', h1, h2, h3, h4, h5⟩ := h; exact ⟨ρ1, fr1, u, m, s1, x, v, g0, g1, h0, h0', h1, h2, hE.trans h3, hB.trans h4, h5⟩
  | goto l => exact h.elim
  | outgrown => exact h.elim
theorem wpS_mono {c : Code} {Q Q' : Exit → Act → List Frame → World → Prop} {a : Act} {cs : List Frame} {w : World} (h : c.wpS P Q a cs w) (hq : ∀ e a cs w, Q e a cs w → Q' e a cs w) : c.wpS P Q' a cs w :=
  fun b k h1 h2 => let ⟨e, a', cs', w', q, r⟩ := h b k h1 h2; ⟨e, a', cs', w', hq _ _ _ _ q, r⟩
/-- **The evaluator of a deferred function's code is sound.** -/
theorem evD_sound (hP : PH P E) (hC : CallSound I P callF) {n : Nat} {ih : IH} (hI : CodeSound I P none n ih) {N : Bound I} {c0 : Frame} {cs0 : List Frame} : ∀ (c : Code) (fr : Fr) (u : SV × Bool) (s : St) (kN : KD) (kX : KDX), evD E P ih callF c fr u s kN kX = true →
    ∀ (ρ : Rho) (a : Act) (m : FrameMode) (w : World), codeOk n P.globals.size c = true → UR ρ u m → FrR ρ n fr a → Rel ρ N s w → Glob P.globals.size ρ →
    c.wpS P (QD ρ s w N n kN kX c0 cs0) a ({ c0 with mode := m } :: cs0) w := by
  intro c
  have plain : ∀ (c : Code) (fr : Fr) (u : SV × Bool) (s : St) (kN : KD) (kX : KDX), ih c fr s (fun fr s => kN fr u s) (fun x fr s => kX x fr u s) = true →
      ∀ (ρ : Rho) (a : Act) (m : FrameMode) (w : World), codeOk n P.globals.size c = true → UR ρ u m → FrR ρ n fr a → Rel ρ N s w → Glob P.globals.size ρ → c.wpS P (QD ρ s w N n kN kX c0 cs0) a ({ c0 with mode := m } :: cs0) w :=
    fun c fr u s kN kX h ρ a m w hok hU hF H hG => wpS_of_wp (wp_mono (wpIn_wide.1 (hI c fr s _ _ h ρ N none a w trivial hok (fun h => absurd rfl h) hF H hG)) fun e a1 w1 he => QD.of_QC hU (Ext.refl ρ s) (Below.refl N w) he)
  induction c with
  | seq x y ihx ihy =>
    intro fr u s kN kX h ρ a m w hok hU hF H hG
    simp only [evD] at h
    simp only [codeOk, Bool.and_eq_true] at hok
    refine wpS_seq (wpS_mono (ihx fr u s _ _ h ρ a m w hok.1 hU hF H hG) fun e a1 cs w1 he => ?_)
    cases e with
    | normal =>
      obtain ⟨ρ1, fr1, u1, m1, s1, rfl, h0, h1, h2, h3, h4, h5⟩ := he
      exact wpS_mono (ihy fr1 u1 s1 _ _ h5 ρ1 a1 m1 w1 hok.2 h0 h1 h2 (hG.mono h3.le)) fun e a cs w q => QD.trans h3 h4 q
    | exit i => exact he
    | ret => exact he
    | panic chain => exact he
    | goto l => exact he
    | outgrown => exact he
  | region id ops draw =>
    intro fr u s kN kX h ρ a m w hok hU hF H hG
    simp only [evD] at h
    cases hc : (hasRec ops && !draw) with
    | false => rw [hc, cond_false] at h; exact plain _ fr u s kN kX h ρ a m w hok hU hF H hG
    | true =>
      rw [hc, cond_true] at h
      rw [Bool.and_eq_true, Bool.not_eq_true'] at hc
      obtain ⟨_, rfl⟩ := hc
      refine wpS_region ?_
      have := evOpsD_sound hP hC (ρ0 := ρ) (s0 := s) (w0 := w) (c0 := c0) (cs0 := cs0) ops.toList 0 fr u s (fun j => by simp) hok h ρ a m w hU hF H hG (Ext.refl ρ s) (Below.refl N w)
      simpa using this
  | _ => exact plain _

/-! ## leaving a function -/
theorem takeD_run {w : World} {r : Nat} (h : w.heap[r]? = some (.deferred (some []))) : (Instr.takeDeferred r).run P w = .ok [] (putB w r (.deferred none)) := by
  simp [Instr.takeDeferred, run_getObj w r _ h (by simp), run_setObj w r _ _ h (by simp)]
theorem callsDIn_of_wpS {f : FuncId} {fn : Func} {c : Code} {args : Array Value} {u : FrameMode} {w : World} {R : Ending → FrameMode → World → Prop}
    (hf : P.funcs[f]? = some fn) (hb : fn.body = some c)
    (h : ∀ (c₀ : Frame) (cs : List Frame), c₀.mode = u → c.wpS P (bodyPostS P fn c₀ cs R) { tmps := args ++ Array.replicate (fn.ntmps - args.size) undef, defers := [] } (c₀ :: cs) w) :
    CallsDIn (Wd none) 0 P f args u w R := by
  refine ⟨trivial, fun c₀ cs hu _ => ?_⟩
  let b : Frame := { (default : Frame) with fn := f, kind := .deferred }
  have henter : Frame.enter P f args .deferred =
      b.at { tmps := args ++ Array.replicate (fn.ntmps - args.size) undef, defers := [] } [.code c] := by
    simp [Frame.enter, Frame.at, hf, hb, b]
  obtain ⟨e, a', cs', w', hq, harr⟩ := h c₀ cs hu b [] rfl rfl
  rw [← henter] at harr
  cases e with
  | normal =>
    obtain ⟨hd, u', rfl, v, hr, hR⟩ := hq
    exact ⟨.returned v, u', w', _, hR, comesIn_wide.2 (Steps.trans harr (.one step_end)), rfl, rfl, rfl, hd, fn, hf, hr⟩
  | ret =>
    obtain ⟨hd, u', rfl, v, hr, hR⟩ := hq
    obtain ⟨todo, hs⟩ := harr
    exact ⟨.returned v, u', w', _, hR, comesIn_wide.2 hs, rfl, rfl, rfl, hd, fn, hf, hr⟩
  | panic chain =>
    obtain ⟨hd, u', rfl, hR⟩ := hq
    obtain ⟨todo, hs⟩ := harr
    exact ⟨.panicked chain, u', w', _, hR, comesIn_wide.2 hs, rfl, rfl, rfl, hd, fn, hf⟩
  | exit id => exact hq.elim
  | goto l => exact hq.elim
  | outgrown =>
    obtain ⟨u', hR⟩ := hq
    exact ⟨.outgrown, u', w', b, hR, comesIn_wide.2 (harr.resolve_left (by simp [b])), rfl, rfl, trivial⟩
theorem leave_sound (hP : PH P E) (hC : CallSound I P callF) {ih : Nat → IH} (hI : ∀ n, CodeSound I P none n (ih n)) {fn : Func} {tmps : Array Value} {R : Ending → World → Prop} {n : Nat} {N : Bound I} {ρ0 : Rho} {s0 : St} {w0 : World} {kV kP : KV} {env : En}
    (hret : ∀ (ρ : Rho) (s : St) (w : World) (x : SV) (v : Value), VR ρ x v → Rel ρ N s w → Ext ρ0 s0 ρ s → Below N w0 w → kV x s = true → R (.returned v) w)
    (hpan : ∀ (ρ : Rho) (s : St) (w : World) (x : SV) (v : Value), VR ρ x v → Rel ρ N s w → Ext ρ0 s0 ρ s → Below N w0 w → kP x s = true → R (.panicked [{ v, recovered := false }]) w)
      : ∀ (ds : List Df) (u : SV × Bool) (s : St), leaveS E P ih callF fn env ds u s kV kP = true → ∀ (ρ : Rho) (defers : List Deferred) (m : FrameMode) (w : World),
      EnvR ρ env { tmps, defers := [] } → tmps.size = n → DfR ρ ds defers → UR ρ u m → Rel ρ N s w → Glob P.globals.size ρ → Ext ρ0 s0 ρ s → Below N w0 w → LeavesInM (Wd none) 0 P fn tmps R defers m w
  | [], u, s, h, ρ, defers, m, w, hEn, hsz, hD, hU, H, hG, hE, hB => by
    have hD' : defers = [] := hD
    subst hD'
    simp only [leaveS] at h
    rcases hU with ⟨h1, rfl⟩ | ⟨h1, v, h2, rfl⟩
    · have h0 : isNili u.1 = true := by rw [h1]; rfl
      rw [h0, cond_true] at h
      cases hab : anyBad (resS P env s fn.results.toList) with
      | true => rw [hab] at h; simp [failB] at h
      | false =>
        rw [hab, cond_false] at h
        have hF : FrR ρ n ⟨env, []⟩ { tmps, defers := [] } := ⟨hEn, hsz, rfl⟩
        obtain ⟨vs, r1, r2⟩ := results_sound (P := P) hF H fn.results.toList hab
        refine ⟨_, ?_, hret ρ s w _ _ (packR_sound r2) H hE hB h⟩
        simp only [results, Sem.run_bind]
        rw [Array.mapM_eq_mapM_toList, Sem.run_map]
        have fin : ∀ (r : Result (List Value)), r = .ok vs w → ((r.andThen fun a w' => Result.ok a.toArray w').andThen fun a w' => Result.ok (if h : a.size = 1 then a[0] else Value.tuple a) w') = .ok (if h : vs.toArray.size = 1 then vs.toArray[0] else .tuple vs.toArray) w := by
          rintro _ rfl; rfl
        exact fin _ r1
    · rw [h1, cond_false] at h
      cases hr : u.2 with
      | true => rw [hr] at h; simp [failB] at h
      | false =>
        rw [hr, cond_false] at h
        exact hpan ρ s w _ _ h2 H hE hB h
  | .mark b :: ds, u, s, h, ρ, defers, m, w, hEn, hsz, hD, hU, H, hG, hE, hB => by
    obtain ⟨r, base, e, ds', hb, rfl, hD'⟩ := hD
    simp only [leaveS] at h
    cases hdm : isDm (s.h.get b) with
    | false => rw [hdm] at h; simp [failB] at h
    | true =>
      rw [hdm, cond_true] at h
      have hg : s.h.get b = .dm := by
        cases hq : s.h.get b <;> rw [hq] at hdm <;> first | rfl | (simp [isDm] at hdm)
      have hL := H.live _ _ _ _ hb
      rw [hg] at hL
      have hL' : w.heap[r]? = some (.deferred (some [])) := hL
      have hw : writable (s.h.get b) = true := by rw [hg]; rfl
      have hm : m ≠ .run := by rcases hU with ⟨_, rfl⟩ | ⟨_, v, _, rfl⟩ <;> simp
      refine ⟨hm, .inl ⟨r, _, rfl, takeD_run hL', ?_⟩⟩
      exact leave_sound hP hC hI hret hpan ds u (s.put b .none) h ρ ds' m _ hEn hsz hD' hU (H.put hb hw (by simp [BR])) hG (hE.trans (Ext.put H hb .none)) (hB.trans (Below.putB (H.low _ _ _ _ hb hw)))
  | .fn g ga :: ds, u, s, h, ρ, defers, m, w, hEn, hsz, hD, hU, H, hG, hE, hB => by
    obtain ⟨a', c', ds', hv, rfl, hD'⟩ := hD
    simp only [leaveS] at h
    split at h
    · rename_i gn c hb
      cases hn : Nat.ble ga.length gn.ntmps with
      | false => rw [hn] at h; simp [failB] at h
      | true =>
        rw [hn, cond_true] at h
        have hn' := Nat.le_of_ble_eq_true hn
        have hent := enter_body hb
        obtain ⟨hf, hbody, hok, hname⟩ := hent
        have hm : m ≠ .run := by rcases hU with ⟨_, rfl⟩ | ⟨_, v, _, rfl⟩ <;> simp
        have hinv : (invoke (.fn (.func g) c'.toArray) a'.toArray).run P w = .ok (.enter g (a'.toArray ++ c'.toArray)) w := by
          simp [invoke, callFunc, hf, hname, hbody]
        refine ⟨hm, .inr ⟨(fun h => by cases h), _, _, _, _, rfl, hinv, fun _ _ => trivial, ?_⟩⟩
        have harr : a'.toArray ++ c'.toArray = (a' ++ c').toArray := by simp
        rw [harr]
        refine CallsDIn.mono (callsDIn_of_wpS hf hbody (R := fun e u' w' => ∃ (v : Value) (ρ2 : Rho) (u2 : SV × Bool) (s2 : St), e = .returned v ∧ UR ρ2 u2 u' ∧ Rel ρ2 N s2 w' ∧ Ext ρ s ρ2 s2 ∧ Below N w w' ∧ leaveS E P ih callF fn env ds (settleS u2) s2 kV kP = true) fun c0 cs hc0 => ?_) fun e u' w' he => ?_
        · have hl := hv.len
          have hF : FrR ρ gn.ntmps ⟨bindArgs ga 0 .e, []⟩ { tmps := (a' ++ c').toArray ++ Array.replicate (gn.ntmps - (a' ++ c').toArray.size) undef, defers := [] } :=
            ⟨args_env hv gn.ntmps, by simp at hl ⊢; omega, rfl⟩
          have hcc : c0 :: cs = { c0 with mode := m } :: cs := by subst hc0; rfl
          rw [hcc]
          refine wpS_mono (evD_sound hP hC (hI gn.ntmps) (c0 := c0) (cs0 := cs) c _ u s _ _ h ρ _ m w hok hU hF H hG) fun e a1 cs1 w1 q => ?_
          have fin : ∀ (ρ2 : Rho) (fr2 : Fr) (u2 : SV × Bool) (m2 : FrameMode) (s2 : St), cs1 = { c0 with mode := m2 } :: cs → UR ρ2 u2 m2 → FrR ρ2 gn.ntmps fr2 a1 → Rel ρ2 N s2 w1 → Ext ρ s ρ2 s2 → Below N w w1 →
              doneD P gn (fun u s => leaveS E P ih callF fn env ds u s kV kP) fr2 u2 s2 = true →
              a1.defers = [] ∧ ∃ u', cs1 = { c0 with mode := u' } :: cs ∧ ∃ v, (results gn a1.tmps).run P w1 = .ok v w1 ∧ ∃ (v' : Value) (ρ2 : Rho) (u2 : SV × Bool) (s2 : St), Ending.returned v = .returned v' ∧ UR ρ2 u2 u' ∧ Rel ρ2 N s2 w1 ∧ Ext ρ s ρ2 s2 ∧ Below N w w1 ∧ leaveS E P ih callF fn env ds (settleS u2) s2 kV kP = true := by
            intro ρ2 fr2 u2 m2 s2 q0 q1 q2 q3 q4 q5 q6
            unfold doneD at q6
            cases hc : (noDefers fr2.ds && !(anyBad (resS P fr2.env s2 gn.results.toList))) with
            | false => rw [hc] at q6; simp [failB] at q6
            | true =>
              rw [hc, cond_true] at q6
              rw [Bool.and_eq_true, Bool.not_eq_true'] at hc
              have hds : fr2.ds = [] := by
                cases hq : fr2.ds with
                | nil => rfl
                | cons x y => rw [hq] at hc; simp [noDefers] at hc
              have hdd := q2.dfr
              rw [hds] at hdd
              obtain ⟨vs, r1, r2⟩ := results_sound (P := P) q2 q3 gn.results.toList hc.2
              refine ⟨hdd, m2, q0, (if h : vs.toArray.size = 1 then vs.toArray[0] else .tuple vs.toArray), ?_, _, ρ2, u2, s2, rfl, q1, q3, q4, q5, q6⟩
              simp only [results, Sem.run_bind]
              rw [Array.mapM_eq_mapM_toList, Sem.run_map]
              have fin : ∀ (r : Result (List Value)), r = .ok vs w1 → ((r.andThen fun a w' => Result.ok a.toArray w').andThen fun a w' => Result.ok (if h : a.size = 1 then a[0] else Value.tuple a) w') = .ok (if h : vs.toArray.size = 1 then vs.toArray[0] else .tuple vs.toArray) w1 := by
                rintro _ rfl; rfl
              exact fin _ r1
          cases e with
          | normal => obtain ⟨ρ2, fr2, u2, m2, s2, q0, q1, q2, q3, q4, q5, q6⟩ := q; exact fin ρ2 fr2 u2 m2 s2 q0 q1 q2 q3 q4 q5 q6
          | ret => obtain ⟨ρ2, fr2, u2, m2, s2, q0, q1, q2, q3, q4, q5, q6⟩ := q; exact fin ρ2 fr2 u2 m2 s2 q0 q1 q2 q3 q4 q5 q6
          | exit i => obtain ⟨ρ2, fr2, u2, m2, s2, q0, q1, q2, q3, q4, q5, q6⟩ := q; simp [doneX, failB] at q6
          | panic chain => obtain ⟨ρ2, fr2, u2, m2, s2, x, v, _, _, q0, q1, q2, q3, q4, q5, q6⟩ := q; simp [doneX, failB] at q6
          | goto l => exact q.elim
          | outgrown => exact q.elim
        · obtain ⟨v, ρ2, u2, s2, rfl, q1, q2, q3, q4, q5⟩ := he
          exact leave_sound hP hC hI hret hpan ds (settleS u2) s2 q5 ρ2 ds' (Go.settle u') w' (hEn.mono q3.le) hsz (hD'.mono q3.le) q1.settle q2 (hG.mono q3.le) (hE.trans q3) (hB.trans q4)
    · simp [failB] at h
end Go.Sh
namespace Go.Sh
variable [Opq]
open Go.RowKit (Below)
variable {I : Rho → World → Prop}
variable {P : Program} {E : EE} {callF : CallF}

theorem back_sound {ρ ρ' : Rho} {N : Bound I} {s s' : St} {w w' : World} {kV kP : KV} {x : SV} {v : Value} (H : Rel ρ N s w) (hv : VR ρ' x v) (H' : Rel ρ' N s' w') (hE : Ext ρ ⟨s.h, s.nx, big⟩ ρ' s') (hB : Below N w w') (h : backTo s kV x s' = true) :
    QV ρ s w N kV kP (.returned v) w' := by
  unfold backTo at h
  cases hc : (scalV x && Nat.ble s.nx s'.lo) with
  | true =>
    rw [hc, cond_true] at h
    rw [Bool.and_eq_true] at hc
    exact ⟨ρ, s, x, scalV_VR hc.1 hv, H.back H' hE (Nat.le_of_ble_eq_true hc.2) hB, Ext.refl ρ s, hB, h⟩
  | false =>
    rw [hc, cond_false] at h
    exact ⟨ρ', ⟨s'.h, s'.nx, minN s.lo s'.lo⟩, x, hv, H'.lo _, hE.of_big, hB, h⟩
theorem body_sound (hP : PH P E) (hC : CallSound I P callF) {ih : Nat → IH} (hI : ∀ n, CodeSound I P none n (ih n)) {f : FuncId} {args : List SV} {s : St} {kV kP : KV} (h : bodyS E P ih callF f args s kV kP = true) {ρ : Rho} {N : Bound I} {w : World} {args' : List Value} (H : Rel ρ N s w) (hG : Glob P.globals.size ρ) (hargs : VRs ρ args args') :
    (callFunc f args'.toArray).run P w = .ok (.enter f args'.toArray) w ∧ Calls P f args'.toArray w (QV ρ s w N kV kP) := by
  unfold bodyS at h
  split at h
  · rename_i fn c hb
    obtain ⟨hf, hbody, hok, hname⟩ := enter_body hb
    cases hn : Nat.ble args.length fn.ntmps with
    | false => rw [hn] at h; simp [failB] at h
    | true =>
      rw [hn, cond_true] at h
      have hn' := Nat.le_of_ble_eq_true hn
      refine ⟨by simp [callFunc, hf, hname, hbody], ?_⟩
      refine Wd.calls (ro := none) (n := 0) (callsIn_of_wp_marks hf hbody trivial ?_)
      have hl := hargs.len
      have hF : FrR ρ fn.ntmps ⟨bindArgs args 0 .e, []⟩ { tmps := args'.toArray ++ Array.replicate (fn.ntmps - args'.toArray.size) undef, defers := [] } :=
        ⟨args_env hargs fn.ntmps, by simp; omega, rfl⟩
      have hret : ∀ (ρ' : Rho) (s' : St) (w' : World) (x : SV) (v : Value), VR ρ' x v → Rel ρ' N s' w' → Ext ρ ⟨s.h, s.nx, big⟩ ρ' s' → Below N w w' → backTo s kV x s' = true → QV ρ s w N kV kP (.returned v) w' :=
        fun ρ' s' w' x v h1 h2 h3 h4 h5 => back_sound H h1 h2 h3 h4 h5
      have hpan : ∀ (ρ' : Rho) (s' : St) (w' : World) (x : SV) (v : Value), VR ρ' x v → Rel ρ' N s' w' → Ext ρ ⟨s.h, s.nx, big⟩ ρ' s' → Below N w w' → kP x ⟨s'.h, s'.nx, minN s.lo s'.lo⟩ = true → QV ρ s w N kV kP (.panicked [{ v, recovered := false }]) w' :=
        fun ρ' s' w' x v h1 h2 h3 h4 h5 => ⟨ρ', ⟨s'.h, s'.nx, minN s.lo s'.lo⟩, x, v, rfl, h1, h2.lo _, h3.of_big, h4, h5⟩
      refine wpIn_mono (hI fn.ntmps c _ _ _ _ h ρ N none _ w trivial hok (fun h => absurd rfl h) hF (H.lo big) hG) fun e a1 w1 he => ?_
      have ret : ∀ {a1 : Act} {w1 : World}, (∃ ρ' fr' s', FrR ρ' fn.ntmps fr' a1 ∧ Rel ρ' N s' w1 ∧ Ext ρ ⟨s.h, s.nx, big⟩ ρ' s' ∧ Below N w w1 ∧ leaveX E P ih callF fn s kV kP .ret fr' s' = true) → LeavesInM (Wd none) 0 P fn a1.tmps (QV ρ s w N kV kP) a1.defers .returning w1 := by
        rintro a1 w1 ⟨ρ', fr', s', h1, h2, h3, h4, h5⟩
        simp only [leaveX] at h5
        exact leave_sound hP hC hI hret hpan fr'.ds (.nili, false) s' h5 ρ' a1.defers .returning w1 h1.env h1.size h1.dfr (.inl ⟨rfl, rfl⟩) h2 (hG.mono h3.le) h3 h4
      cases e with
      | normal => exact ret he
      | ret => exact ret he
      | exit i =>
        obtain ⟨ρ', fr', s', h1, h2, h3, h4, h5⟩ := he
        simp [leaveX, failB] at h5
      | panic chain =>
        obtain ⟨ρ', fr', s', x, v, rfl, hv, h1, h2, h3, h4, h5⟩ := he
        simp only [leaveX] at h5
        cases hnx : isNili x with
        | true => rw [hnx] at h5; simp [failB] at h5
        | false =>
          rw [hnx, cond_false] at h5
          exact leave_sound hP hC hI hret hpan fr'.ds (x, false) s' h5 ρ' a1.defers _ w1 h1.env h1.size h1.dfr (.inr ⟨hnx, v, hv, rfl⟩) h2 (hG.mono h3.le) h3 h4
      | goto l => exact he.elim
      | outgrown => exact he.elim
  · simp [failB] at h

/-! ## a round -/
theorem bindPs_sound {ρ : Rho} : ∀ (ps : List Tmp) (args : List SV) (vs : List Value) (env env' : En) (tm : Array Value), bindPs ps args env = some env' → VRs ρ args vs → (∀ t, env.get t ≠ .bad → ∃ v, tm[t]? = some v ∧ VR ρ (env.get t) v) →
    (∀ t ∈ ps, t < tm.size) → ps.length = vs.length ∧ ((ps.zip vs).foldl (fun tm p => tm.setIfInBounds p.1 p.2) tm).size = tm.size ∧
      (∀ t, env'.get t ≠ .bad → ∃ v, ((ps.zip vs).foldl (fun tm p => tm.setIfInBounds p.1 p.2) tm)[t]? = some v ∧ VR ρ (env'.get t) v)
  | [], args, vs, env, env', tm, h, hv, he, hl => by
    cases args with
    | nil =>
      simp only [bindPs, Option.some.injEq] at h
      subst h
      rw [VRs.nil_iff] at hv
      subst hv
      exact ⟨rfl, rfl, he⟩
    | cons x xs => simp [bindPs] at h
  | t :: ts, args, vs, env, env', tm, h, hv, he, hl => by
    cases args with
    | nil => simp [bindPs] at h
    | cons x xs =>
      simp only [bindPs] at h
      obtain ⟨y, ys, h1, h2, rfl⟩ := hv.cons_inv
      have hlt : t < tm.size := hl t (by simp)
      have := bindPs_sound ts xs ys (env.set t x) env' (tm.setIfInBounds t y) h h2 (fun k hk => by
        by_cases e : k = t
        · subst e
          rcases En.get_set_eq env k x with hg | hg
          · rw [hg]; exact ⟨y, by simp [hlt], h1⟩
          · exact absurd hg hk
        · rw [En.get_set_ne _ _ _ _ e] at hk ⊢
          obtain ⟨v, q1, q2⟩ := he k hk
          refine ⟨v, ?_, q2⟩
          rw [Array.getElem?_setIfInBounds, if_neg (fun h => e h.symm)]
          exact q1) (fun k hk => by rw [Array.size_setIfInBounds]; exact hl k (by simp [hk]))
      obtain ⟨k1, k2, k3⟩ := this
      refine ⟨by simp [k1], ?_, ?_⟩
      · simp only [List.zip_cons_cons, List.foldl_cons]; rw [k2, Array.size_setIfInBounds]
      · simp only [List.zip_cons_cons, List.foldl_cons]; exact k3
theorem run_yield {w : World} {r : Nat} {l : Loop} (h : w.heap[r]? = some (.loop l)) {args : List Value} (hl : l.params.toList.length = args.length) : (Instr.yield r args.toArray).run P w =
    .ok (.round r l.fn ((l.params.toList.zip args).foldl (fun tm p => tm.setIfInBounds p.1 p.2) l.tmps) l.assign l.body) w := by
  have hs : args.length = l.params.size := by rw [← hl]; simp
  have hz : (l.params.zip args.toArray).foldl (fun tm (p : Tmp × Value) => tm.setIfInBounds p.1 p.2) l.tmps = (l.params.toList.zip args).foldl (fun tm p => tm.setIfInBounds p.1 p.2) l.tmps := by
    rw [← Array.foldl_toList]; simp
  simp only [Instr.yield, Sem.run_bind, run_getLoop h, Result.andThen_ok]
  rw [if_neg (by simp [hs])]
  simp only [Sem.run_pure, Sem.run_bind, Result.andThen_ok]
  exact congrArg (fun x => Result.ok (Next.round r l.fn x l.assign l.body) w) hz
theorem run_beginRound {w : World} {r : Nat} {l : Loop} (h : w.heap[r]? = some (.loop l)) (hs : l.state = .ready) : (Instr.beginRound r).run P w = .ok () (putB w r (.loop { l with state := .busy })) := by
  simp [Instr.beginRound, run_getLoop h, run_setObj w r _ _ h (by simp), hs]
theorem run_endRound {w : World} {r : Nat} {l : Loop} (h : w.heap[r]? = some (.loop l)) (j : Option Code) : (Instr.endRound r j).run P w = .ok (.bool j.isNone) (putB w r (.loop { l with state := if j.isNone then .ready else .done, pending := j })) := by
  simp [Instr.endRound, run_getLoop h, run_setObj w r _ _ h (by simp)]
theorem endRound_sound {ρ0 ρ : Rho} {s0 s : St} {w0 w : World} {N : Bound I} {kV kP : KV} {b r base e : Nat} {j : Option Code} (h : endRoundS b j s kV = true) (H : Rel ρ N s w) (hb : ρ b = some (r, base, e)) (hE : Ext ρ0 s0 ρ s) (hB : Below N w0 w) :
    ∃ v w', (Instr.endRound r j).run P w = .ok v w' ∧ QV ρ0 s0 w0 N kV kP (.returned v) w' := by
  unfold endRoundS at h
  split at h
  · rename_i n env ps x y st pend dm hg
    have hL := H.live _ _ _ _ hb
    rw [hg] at hL
    obtain ⟨l, r', base', e', h1, h2, h3, h4, h5, h6, h7, h8, h9, h10⟩ := hL
    have hw : writable (s.h.get b) = true := by rw [hg]; rfl
    refine ⟨_, _, run_endRound h1 j, ?_⟩
    cases j with
    | none =>
      simp only at h
      refine ⟨ρ, _, _, ?_, H.put (blk := .lp n env ps x y 0 none dm) (o := .loop { l with state := .ready, pending := none }) hb hw ?_, hE.trans (Ext.put H hb _), hB.trans (Below.putB (H.low _ _ _ _ hb hw)), h⟩
      · simp [VR]
      · exact ⟨_, r', base', e', rfl, h2, h3, h4, h5, h6, rfl, rfl, h9, h10⟩
    | some c =>
      simp only at h
      refine ⟨ρ, _, _, ?_, H.put (blk := .lp n env ps x y 2 (some c) dm) (o := .loop { l with state := .done, pending := some c }) hb hw ?_, hE.trans (Ext.put H hb _), hB.trans (Below.putB (H.low _ _ _ _ hb hw)), h⟩
      · simp [VR]
      · exact ⟨_, r', base', e', rfl, h2, h3, h4, h5, h6, rfl, rfl, h9, h10⟩
  · simp [failB] at h
theorem round_sound {ih : Nat → Nat → IH} (hI : ∀ l n, CodeSound I P (some l) n (ih l n)) {b : Nat} {args : List SV} {s : St} {kV kP : KV} (h : roundS P.globals.size ih b args s kV = true)
    {ρ : Rho} {N : Bound I} {w : World} {args' : List Value} {r base e : Nat} (H : Rel ρ N s w) (hG : Glob P.globals.size ρ) (hargs : VRs ρ args args') (hb : ρ b = some (r, base, e)) :
    ∃ (fn : FuncId) (tmps : Array Value) (assign body : Code), (Instr.yield r args'.toArray).run P w = .ok (.round r fn tmps assign body) w ∧ ∀ ro, RoundIn (Wd ro) 0 P r fn tmps assign body w (QV ρ s w N kV kP) := by
  unfold roundS at h
  split at h
  · rename_i n env ps x y st pend dm hg
    cases hc : (Nat.beq st 0 && (noDfr x && noDfr y) && (codeOk n P.globals.size x && codeOk n P.globals.size y) && ps.toList.all (fun t => Nat.ble (Nat.succ t) n)) with
    | false => rw [hc] at h; simp [failB] at h
    | true =>
      rw [hc, cond_true] at h
      simp only [Bool.and_eq_true] at hc
      obtain ⟨⟨⟨hst, hdx, hdy⟩, hkx, hky⟩, hps⟩ := hc
      split at h
      · rename_i env' hbind
        have hL := H.live _ _ _ _ hb
        rw [hg] at hL
        obtain ⟨l, r', base', e', h1, h2, h3, h4, h5, h6, h7, h8, h9, h10⟩ := hL
        have hbd := bindPs_sound ps.toList args args' env env' l.tmps hbind hargs h3 (fun t ht => by
          have := List.all_eq_true.1 hps t ht
          have h' : t + 1 ≤ n := Nat.le_of_ble_eq_true this
          rw [← h2] at h'
          exact h')
        subst h4 h5 h6
        refine ⟨l.fn, _, l.assign, l.body, run_yield h1 hbd.1, fun ro => roundIn_of_wpIn trivial ?_⟩
        have hF : FrR ρ n ⟨env', []⟩ { tmps := ((l.params.toList.zip args').foldl (fun tm p => tm.setIfInBounds p.1 p.2) l.tmps), defers := [] } := ⟨hbd.2.2, by rw [← h2]; exact hbd.2.1, rfl⟩
        refine wpIn_mono (F := Wd (some r)) (hI b n _ _ _ _ _ h ρ N (some r) _ w ⟨base, e, hb⟩ hkx (fun _ => hdx) hF H hG) fun e1 a1 w1 he => ?_
        cases e1 with
        | normal =>
          obtain ⟨ρ1, fr1, s1, k1, k2, k3, k4, k5⟩ := he
          simp only at k5
          split at k5
          · rename_i n1 env1 ps1 x1 y1 st1 pend1 dm1 hg1
            cases hst1 : Nat.beq st1 0 with
            | false => rw [hst1] at k5; simp [failB] at k5
            | true =>
              rw [hst1, cond_true] at k5
              obtain rfl := Nat.eq_of_beq_eq_true hst1
              have hb1 := k3.le _ _ hb
              have hL1 := k2.live _ _ _ _ hb1
              rw [hg1] at hL1
              obtain ⟨l1, r1, base1, e1, g1, g2, g3, g4, g5, g6, g7, g8, g9, g10⟩ := hL1
              have hw1 : writable (s1.h.get b) = true := by rw [hg1]; rfl
              refine ⟨_, run_beginRound g1 g7, ?_⟩
              have H1 := k2.put (blk := .lp n1 env1 ps1 x1 y1 1 pend1 dm1) (o := .loop { l1 with state := .busy }) hb1 hw1 ⟨_, r1, base1, e1, rfl, g2, g3, g4, g5, g6, rfl, g8, g9, g10⟩
              have E1 := k3.trans (Ext.put k2 hb1 (.lp n1 env1 ps1 x1 y1 1 pend1 dm1))
              have B1 := k4.trans (Below.putB (o := .loop { l1 with state := .busy }) (k2.low _ _ _ _ hb1 hw1))
              refine wpIn_mono (F := Wd (some r)) (hI b n _ _ _ _ _ k5 ρ1 N (some r) a1 _ ⟨base, e, hb1⟩ hky (fun _ => hdy) k1 H1 (hG.mono k3.le)) fun e2 a2 w2 he2 => ?_
              cases e2 with
              | normal =>
                obtain ⟨ρ2, fr2, s2, m1, m2, m3, m4, m5⟩ := he2
                exact endRound_sound m5 m2 (m3.le _ _ hb1) (E1.trans m3) (B1.trans m4)
              | ret =>
                obtain ⟨ρ2, fr2, s2, m1, m2, m3, m4, m5⟩ := he2
                exact endRound_sound m5 m2 (m3.le _ _ hb1) (E1.trans m3) (B1.trans m4)
              | exit i =>
                obtain ⟨ρ2, fr2, s2, m1, m2, m3, m4, m5⟩ := he2
                exact endRound_sound m5 m2 (m3.le _ _ hb1) (E1.trans m3) (B1.trans m4)
              | panic ch =>
                obtain ⟨ρ2, fr2, s2, x, v, m0, m0', m1, m2, m3, m4, m5⟩ := he2
                simp [failB] at m5
              | goto t => exact he2.elim
              | outgrown => exact he2.elim
          · simp [failB] at k5
        | exit i => obtain ⟨ρ1, fr1, s1, k1, k2, k3, k4, k5⟩ := he; simp [failB] at k5
        | ret => obtain ⟨ρ1, fr1, s1, k1, k2, k3, k4, k5⟩ := he; simp [failB] at k5
        | panic ch => obtain ⟨ρ1, fr1, s1, x, v, k0, k0', k1, k2, k3, k4, k5⟩ := he; simp [failB] at k5
        | goto t => exact he.elim
        | outgrown => exact he.elim
      · simp [failB] at h
  · simp [failB] at h

/-! ## externs, and calls of which it is known what they give -/
/-- what is asked of an extern -/
def RowOk (I : Rho → World → Prop) (P : Program) (f : FuncId) (k : XK) : Prop := ∀ (args : List SV) (s : St) (kV kP : KV), extS k args s kV = true →
  ∀ (ρ : Rho) (N : Bound I) (w : World) (args' : List Value), Rel ρ N s w → Glob P.globals.size ρ → VRs ρ args args' →
    ∃ v w', (callFunc f args'.toArray).run P w = .ok (.value v) w' ∧ QV ρ s w N kV kP (.returned v) w'
/-- what is asked at the end of a row's call -/
def RowEnd (ρ : Rho) (w w' : World) (r : KRow) (v : Value) : Prop := match r.news with
  | none => VR ρ r.res v
  | some l => ∃ ρ' : Rho, ρ.le ρ' ∧ VR ρ' r.res v ∧ (∀ b, r.nx + l.length ≤ b → ρ' b = none) ∧ (∀ b, b < r.nx → ρ' b = ρ b) ∧ (∀ b q base e, ρ' b = some (q, base, e) → q < w'.heap.size) ∧
      (∀ i blk, l[i]? = some blk → ∀ q base e, ρ' (r.nx + i) = some (q, base, e) → BR ρ' base e blk w'.heap[q]? ∧ (isNone blk = false → w.heap.size ≤ q)) ∧
      (∀ i j blk blk', l[i]? = some blk → l[j]? = some blk' → isNone blk = false → isNone blk' = false → ∀ q base e base' e', ρ' (r.nx + i) = some (q, base, e) → ρ' (r.nx + j) = some (q, base', e') → i = j) ∧
      (∀ i : Nat, ∀ blk, l[i]? = some blk → isNone blk = false → writable blk = true)
/-- what is asked of a row of calls -/
structure KRowOk (I : Rho → World → Prop) (P : Program) (f : FuncId) (r : KRow) : Prop where
  body : (bodyOf P f).isSome = true
  calls : ∀ (ρ : Rho) (w : World) (args' : List Value), I ρ w → Glob P.globals.size ρ → (r.nx ≠ 0 → ∀ b, r.nx ≤ b → ρ b = none) → (∀ b q base e, ρ b = some (q, base, e) → q < w.heap.size) →
    (∀ x ∈ r.bs, ∀ q base e, ρ x.1 = some (q, base, e) → BR ρ base e (.ro x.2.1 x.2.2) w.heap[q]?) → VRs ρ r.args args' →
    Calls P f args'.toArray w (fun e w' => ∃ v, e = .returned v ∧ Below w.heap.size w w' ∧ RowEnd ρ w w' r v)
/-- what is asked of the table -/
structure XOk (I : Rho → World → Prop) (P : Program) (X : FuncId → Option XK) : Prop where
  ext : ∀ (f : FuncId) (k : XK), X f = some k → isKnown k = false → RowOk I P f k
  known : ∀ (f : FuncId) (rows : List KRow), X f = some (.known rows) → ∀ r ∈ rows, KRowOk I P f r
theorem BR.ro {ρ : Rho} {base e ty : Nat} {cs : List SV} {blk : SBlk} {o : Option Obj} (h : roFits ty cs blk = true) (hB : BR ρ base e blk o) : BR ρ base e (.ro ty cs) o := by
  cases blk <;> simp only [roFits] at h <;> try cases h
  · rename_i t ds
    cases ht : Nat.beq t ty with
    | false => rw [ht] at h; cases h
    | true =>
      rw [ht, cond_true] at h
      obtain rfl := samesF_eq _ _ _ h
      obtain ⟨rc, h1, _, _, _, h4⟩ := hB
      exact ⟨rc, _, _, h1, h4⟩
  · rename_i t ds ub fz st
    cases ht : Nat.beq t ty with
    | false => rw [ht] at h; cases h
    | true =>
      rw [ht, cond_true] at h
      obtain rfl := samesF_eq _ _ _ h
      obtain ⟨rc, fz', h1, _, _, _, h4, _⟩ := hB
      exact ⟨rc, _, _, h1, h4⟩
  · rename_i t ds
    cases ht : Nat.beq t ty with
    | false => rw [ht] at h; cases h
    | true =>
      rw [ht, cond_true] at h
      obtain rfl := samesF_eq _ _ _ h
      exact hB
theorem blocksFit_mem {h : Hp} : ∀ {bs : List (Nat × Nat × List SV)}, blocksFit h bs = true → ∀ x ∈ bs, roFits x.2.1 x.2.2 (h.get x.1) = true
  | [], _, x, hx => by cases hx
  | b :: bs, hf, x, hx => by
    simp only [blocksFit] at hf
    cases hb : roFits b.2.1 b.2.2 (h.get b.1) with
    | false => rw [hb] at hf; cases hf
    | true =>
      rw [hb, cond_true] at hf
      rcases List.mem_cons.1 hx with rfl | hx
      · exact hb
      · exact blocksFit_mem hf x hx
theorem Rel.later {ρ : Rho} {N : Bound I} {s : St} {w w' : World} (H : Rel ρ N s w) (hB : Below w.heap.size w w') : Rel ρ N s w' where
  fresh := H.fresh
  live b r base e hb := by rw [hB.block r (H.bound _ _ _ _ hb)]; exact H.live _ _ _ _ hb
  bound b r base e hb := Nat.lt_of_lt_of_le (H.bound _ _ _ _ hb) hB.size
  low := H.low
  inj := H.inj
  size := Nat.le_trans H.size hB.size
  inv := N.stable _ _ _ _ H.inv (Rho.le_refl ρ) (hB.mono H.size)
theorem nxFits_eq {r : KRow} {s : St} (h : nxFits r s = true) : (r.nx ≠ 0 → s.nx = r.nx) ∧ (r.nx = 0 → r.news = none) := by
  unfold nxFits at h
  cases hb : Nat.beq r.nx 0 with
  | true =>
    rw [hb, cond_true] at h
    have h0 := Nat.eq_of_beq_eq_true hb
    refine ⟨fun h' => absurd h0 h', fun _ => ?_⟩
    cases hn : r.news with
    | none => rfl
    | some l => rw [hn] at h; cases h
  | false =>
    rw [hb, cond_false] at h
    exact ⟨fun _ => Nat.eq_of_beq_eq_true h, fun h' => by rw [h'] at hb; simp at hb⟩
theorem findRow_some {args : List SV} {s : St} {v : KRow} : ∀ {rows : List KRow}, findRow args s rows = some v → v ∈ rows ∧ nxFits v s = true ∧ args = v.args ∧ blocksFit s.h v.bs = true
  | [], h => by simp [findRow] at h
  | r :: rs, h => by
    simp only [findRow] at h
    have tl : findRow args s rs = some v → v ∈ r :: rs ∧ nxFits v s = true ∧ args = v.args ∧ blocksFit s.h v.bs = true := fun h => by
      obtain ⟨h1, h2⟩ := findRow_some h
      exact ⟨List.mem_cons_of_mem _ h1, h2⟩
    cases hn : nxFits r s with
    | false => rw [hn, cond_false] at h; exact tl h
    | true =>
      rw [hn, cond_true] at h
      cases hf : rowFits r args s with
      | false => rw [hf, cond_false] at h; exact tl h
      | true =>
        rw [hf, cond_true] at h
        unfold rowFits at hf
        cases ha : sameF.samesF 1000 args r.args with
        | false => rw [ha] at hf; cases hf
        | true =>
          rw [ha, cond_true] at hf
          cases h
          exact ⟨List.mem_cons_self, hn, samesF_eq _ _ _ ha, hf⟩
theorem pushAll_nx : ∀ (l : List SBlk) (s : St), (pushAll l s).nx = s.nx + l.length
  | [], s => by simp [pushAll]
  | b :: l, s => by
    simp only [pushAll, List.length_cons]
    rw [pushAll_nx l (s.new b)]
    show Nat.succ s.nx + l.length = _
    omega
theorem pushAll_lo : ∀ (l : List SBlk) (s : St), (pushAll l s).lo = s.lo
  | [], s => rfl
  | b :: l, s => by simp only [pushAll]; rw [pushAll_lo l (s.new b)]; rfl
theorem pushAll_old : ∀ (l : List SBlk) (s : St) (b : Nat), b < s.nx → (pushAll l s).h.get b = s.h.get b
  | [], s, b, _ => rfl
  | x :: l, s, b, hb => by
    simp only [pushAll]
    rw [pushAll_old l (s.new x) b (by show b < Nat.succ s.nx; omega)]
    exact Hp.get_set_ne _ _ _ _ (by omega)
theorem pushAll_new : ∀ (l : List SBlk) (s : St) (i : Nat) (blk : SBlk), l[i]? = some blk → (pushAll l s).h.get (s.nx + i) = blk ∨ (pushAll l s).h.get (s.nx + i) = .none
  | [], s, i, blk, h => by simp at h
  | x :: l, s, 0, blk, h => by
    simp only [List.getElem?_cons_zero, Option.some.injEq] at h
    subst h
    simp only [pushAll, Nat.add_zero]
    rw [pushAll_old l (s.new x) s.nx (by show s.nx < Nat.succ s.nx; omega)]
    exact Hp.get_set_eq _ _ _
  | x :: l, s, i + 1, blk, h => by
    simp only [List.getElem?_cons_succ] at h
    have := pushAll_new l (s.new x) i blk h
    simp only [pushAll]
    have e : (s.new x).nx + i = s.nx + (i + 1) := by show Nat.succ s.nx + i = _; omega
    rw [e] at this
    exact this
/-- a row's own blocks, beside what was there -/
theorem Rel.pushed {ρ ρ' : Rho} {N : Bound I} {s : St} {w w' : World} {r : KRow} {l : List SBlk} (H : Rel ρ N s w) (hn : s.nx = r.nx) (hB : Below w.heap.size w w') (hle : ρ.le ρ')
    (h1 : ∀ b, r.nx + l.length ≤ b → ρ' b = none) (h2 : ∀ b, b < r.nx → ρ' b = ρ b) (h3 : ∀ b q base e, ρ' b = some (q, base, e) → q < w'.heap.size)
    (h4 : ∀ i blk, l[i]? = some blk → ∀ q base e, ρ' (r.nx + i) = some (q, base, e) → BR ρ' base e blk w'.heap[q]? ∧ (isNone blk = false → w.heap.size ≤ q))
    (h5 : ∀ i j blk blk', l[i]? = some blk → l[j]? = some blk' → isNone blk = false → isNone blk' = false → ∀ q base e base' e', ρ' (r.nx + i) = some (q, base, e) → ρ' (r.nx + j) = some (q, base', e') → i = j) (_h6 : ∀ i : Nat, ∀ blk, l[i]? = some blk → isNone blk = false → writable blk = true) :
    Rel ρ' N (pushAll l s) w' := by
  have split : ∀ b x, ρ' b = some x → (b < s.nx ∧ ρ b = some x ∧ (pushAll l s).h.get b = s.h.get b) ∨ (∃ i blk, b = r.nx + i ∧ l[i]? = some blk ∧ ((pushAll l s).h.get b = blk ∨ (pushAll l s).h.get b = .none)) := by
    intro b x hb
    by_cases hlt : b < s.nx
    · left
      exact ⟨hlt, by rw [← h2 b (by omega)]; exact hb, pushAll_old l s b hlt⟩
    · right
      have hlt2 : b < r.nx + l.length := by
        rcases Nat.lt_or_ge b (r.nx + l.length) with h | h
        · exact h
        · rw [h1 b h] at hb; cases hb
      have hi : b - r.nx < l.length := by omega
      refine ⟨b - r.nx, l[b - r.nx], by omega, List.getElem?_eq_getElem hi, ?_⟩
      have := pushAll_new l s (b - r.nx) _ (List.getElem?_eq_getElem hi)
      have e : s.nx + (b - r.nx) = b := by omega
      rw [e] at this
      exact this
  refine ⟨?_, ?_, h3, ?_, ?_, Nat.le_trans H.size hB.size, N.stable _ _ _ _ H.inv hle (hB.mono H.size)⟩
  · intro b hb
    rw [pushAll_nx] at hb
    exact h1 b (by omega)
  · intro b q base e hb
    rcases split b _ hb with ⟨hlt, hq, hg⟩ | ⟨i, blk, rfl, hl, hg⟩
    · rw [hg, hB.block q (H.bound _ _ _ _ hq)]
      exact (H.live _ _ _ _ hq).mono hle
    · rcases hg with hg | hg <;> rw [hg]
      · exact (h4 i blk hl q base e hb).1
      · simp [BR]
  · intro b q base e hb hw
    rcases split b _ hb with ⟨hlt, hq, hg⟩ | ⟨i, blk, rfl, hl, hg⟩
    · rw [hg] at hw; exact H.low _ _ _ _ hq hw
    · rcases hg with hg | hg <;> rw [hg] at hw
      · exact Nat.le_trans H.size ((h4 i blk hl q base e hb).2 (isNone_of_writable hw))
      · simp [writable] at hw
  · intro b b' q base e base' e' hb hb' hw hn'
    rcases split b _ hb with ⟨hlt, hq, hg⟩ | ⟨i, blk, rfl, hl, hg⟩ <;> rcases split b' _ hb' with ⟨hlt', hq', hg'⟩ | ⟨j, blk', rfl, hl', hg'⟩
    · rw [hg] at hw; rw [hg'] at hn'
      exact H.inj _ _ _ _ _ _ _ hq hq' hw hn'
    · rcases hg' with hg' | hg' <;> rw [hg'] at hn'
      · have k1 := (h4 j blk' hl' q base' e' hb').2 hn'
        have k2 := H.bound _ _ _ _ hq
        omega
      · simp [isNone] at hn'
    · rcases hg with hg | hg <;> rw [hg] at hw
      · have k1 := (h4 i blk hl q base e hb).2 (isNone_of_writable hw)
        have k2 := H.bound _ _ _ _ hq'
        omega
      · simp [writable] at hw
    · rcases hg with hg | hg <;> rw [hg] at hw
      · rcases hg' with hg' | hg' <;> rw [hg'] at hn'
        · rw [h5 i j blk blk' hl hl' (isNone_of_writable hw) hn' _ _ _ _ _ hb hb']
        · simp [isNone] at hn'
      · simp [writable] at hw
theorem Ext.pushed {ρ ρ' : Rho} {s : St} {r : KRow} {l : List SBlk} (hn : s.nx = r.nx) (hle : ρ.le ρ') (h2 : ∀ b, b < r.nx → ρ' b = ρ b) : Ext ρ s ρ' (pushAll l s) where
  le := hle
  keep b hb hn' := ⟨by rw [h2 b (by omega)]; exact hn', pushAll_old l s b hb⟩
  nx := by rw [pushAll_nx]; omega
  lo := by rw [pushAll_lo]; omega
  same b hb _ := pushAll_old l s b hb
/-- a function with a body is entered -/
theorem enter_of_body {f : FuncId} (h : (bodyOf P f).isSome = true) (args' : Array Value) (w : World) : (callFunc f args').run P w = .ok (.enter f args') w := by
  unfold bodyOf at h
  split at h
  · rename_i fn' hf
    split at h
    · rename_i c' hbody
      cases hc : (codeOk fn'.ntmps P.globals.size c' && !(fn'.name == "runtime.NumGoroutine")) with
      | false => rw [hc] at h; cases h
      | true =>
        rw [Bool.and_eq_true, Bool.not_eq_true'] at hc
        have h1 : fn'.name ≠ "runtime.NumGoroutine" := by simpa using hc.2
        simp [callFunc, hf, h1, hbody]
    · cases h
  · cases h
theorem call_step (hP : PH P E) {X : FuncId → Option XK} (hX : XOk I P X) {ih : Nat → IH} (hI : ∀ n, CodeSound I P none n (ih n)) {ih2 : Nat → Nat → IH} (hI2 : ∀ l n, CodeSound I P (some l) n (ih2 l n)) (hC : CallSound I P callF) :
    CallSound I P ⟨fun f a s kV kP => callC E X P ih callF f a s kV kP, fun b a s kV _ => roundS P.globals.size ih2 b a s kV⟩ := by
  refine ⟨?_, fun b args s kV kP h ρ N w args' r base e H hG hargs hb => round_sound hI2 h H hG hargs hb⟩
  intro f args s kV kP h ρ N w args' H hG hargs
  simp only [callC] at h
  split at h
  · rename_i k hk
    cases hkn : isKnown k with
    | false => rw [hkn, cond_false] at h; exact .inr (hX.ext f k hk hkn args s kV kP h ρ N w args' H hG hargs)
    | true =>
      rw [hkn, cond_true] at h
      split at h
      · rename_i r hv
        cases k <;> simp only [isKnown] at hkn <;> try cases hkn
        rename_i rows
        obtain ⟨hr, hn, rfl, hb⟩ := findRow_some (show findRow args s rows = some r from hv)
        obtain ⟨k2, k3⟩ := hX.known f rows hk r hr
        refine .inl ⟨enter_of_body k2 _ _, ?_⟩
        refine (k3 ρ w args' H.inv hG (fun hne b hb' => H.fresh b (by have := (nxFits_eq hn).1 hne; omega)) H.bound (fun x hx q base e hq => BR.ro (blocksFit_mem hb x hx) (H.live _ _ _ _ hq)) hargs).mono fun e w' he => ?_
        obtain ⟨u, rfl, hB, hu⟩ := he
        obtain ⟨rnx, rargs, rbs, rres, rnews⟩ := r
        obtain ⟨hn1, hn2⟩ := nxFits_eq hn
        cases rnews with
        | none => exact ⟨ρ, s, _, hu, H.later hB, Ext.refl ρ s, hB.mono H.size, h⟩
        | some l =>
          obtain ⟨ρ', hle, hv', h1, h2, h3, h4, h5, h6⟩ := hu
          have hn : s.nx = rnx := hn1 fun h => by have := hn2 h; simp at this
          exact ⟨ρ', pushAll l s, _, hv', H.pushed (r := ⟨rnx, rargs, rbs, rres, some l⟩) hn hB hle h1 h2 h3 h4 h5 h6, Ext.pushed (r := ⟨rnx, rargs, rbs, rres, some l⟩) hn hle h2, hB.mono H.size, h⟩
      · exact .inl (body_sound hP hC hI h H hG hargs)
  · exact .inl (body_sound hP hC hI h H hG hargs)
/-- **The evaluator is sound.** -/
theorem ev_sound (hM : P.follows .mixedOrders = true) (hP : PH P E) {X : FuncId → Option XK} (hX : XOk I P X) : ∀ m : Nat, (∀ rd n, CodeSound I P rd n ((ev E X P m).c rd n)) ∧ CallSound I P (ev E X P m).f ∧
    (∀ (rd : Option Nat) (n : Nat) (c : Code) (fr : Fr) (s : St) (kN : KN) (kX : KX), (ev E X P m).c rd n (.loop c) fr s kN kX = true →
      ∀ (ρ : Rho) (N : Bound I) (ro : Option Nat) (a : Act) (w : World), RdR ρ rd ro → codeOk n P.globals.size c = true → (rd ≠ none → noDfr c = true) → FrR ρ n fr a → Rel ρ N s w → Glob P.globals.size ρ → Code.roundsIn (Wd ro) 0 P c (QC ρ s w N n kN kX) m a w)
  | 0 => ⟨fun rd n c fr s kN kX h => by simp [ev, failB] at h, ⟨fun f a s kV kP h => by simp [ev, failB] at h, fun b a s kV kP h => by simp [ev, failB] at h⟩, fun rd n c fr s kN kX h => by simp [ev, failB] at h⟩
  | m + 1 => by
    obtain ⟨h1, h2, h3⟩ := ev_sound hM hP hX m
    have hs := fun rd n => code_step hM hP h2 (h1 rd n) (m := m) (h3 rd n)
    exact ⟨fun rd n => (hs rd n).1, call_step hP hX (fun n => h1 none n) (fun l n => h1 (some l) n) h2, fun rd n => (hs rd n).2⟩
theorem call_sound_ev (hM : P.follows .mixedOrders = true) (hP : PH P E) {X : FuncId → Option XK} (hX : XOk I P X) {m : Nat} {f : FuncId} {s : St} {kV kP : KV} (_hf : (P.funcs[f]?.bind (·.body)).isSome = true) (hXf : X f = none) (h : (ev E X P (m + 1)).f.f f [] s kV kP = true)
    {ρ : Rho} {N : Bound I} {w : World} (H : Rel ρ N s w) (hG : Glob P.globals.size ρ) : Calls P f #[] w (QV ρ s w N kV kP) := by
  obtain ⟨h1, h2, h3⟩ := ev_sound hM hP hX m
  have h' : callC E X P ((ev E X P m).c none) (ev E X P m).f f [] s kV kP = true := h
  simp only [callC, hXf] at h'
  exact (body_sound hP h2 (fun n => h1 none n) h' H hG VRs.nil).2
end Go.Sh
