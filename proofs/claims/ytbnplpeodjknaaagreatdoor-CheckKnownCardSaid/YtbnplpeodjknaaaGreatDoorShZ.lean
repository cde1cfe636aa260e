/- Part of a proof that a closed law answers true: the evaluator of the first text is sound; this text is one step of it. No condition. -/
import Derived.Test.YtbnplpeodjknaaaGreatDoorShDef
import Derived.Laws.Externs
set_option linter.unusedSectionVars false
set_option linter.unusedSimpArgs false
set_option linter.unusedVariables false
namespace Go.Sh
variable [Opq]
open Go.RowKit (Below)
variable {I : Rho → World → Prop}
variable {P : Program} {E : EE} {callF : CallF}

theorem back_sound {ρ ρ' : Rho} {N : Bound I} {s s' : St} {w w' : World} {kV kP : KV} {x : SV} {v : Value} (H : Rel ρ N s w) (hv : VR ρ' x v) (H' : Rel ρ' N s' w') (hE : Ext ρ ⟨s.h, s.nx, big⟩ ρ' s') (hB : Below N w w') (h : backTo s kV x s' = true) :
    QV ρ s w N kV kP (.returned v) w' := by
  unfold backTo at h
  cases hc : (scalV x && Nat.ble s.nx s'.lo) with
  | true =>
    rw [hc, cond_true] at h
    rw [Bool.and_eq_true] at hc
    exact ⟨ρ, s, x, scalV_VR hc.1 hv, H.back H' hE (Nat.le_of_ble_eq_true hc.2) hB, Ext.refl ρ s, hB, h⟩
  | false =>
    rw [hc, cond_false] at h
    exact ⟨ρ', ⟨s'.h, s'.nx, minN s.lo s'.lo⟩, x, hv, H'.lo _, hE.of_big, hB, h⟩
theorem body_sound (hP : PH P E) (hC : CallSound I P callF) {ih : Nat → IH} (hI : ∀ n, CodeSound I P none n (ih n)) {f : FuncId} {args : List SV} {s : St} {kV kP : KV} (h : bodyS E P ih callF f args s kV kP = true) {ρ : Rho} {N : Bound I} {w : World} {args' : List Value} (H : Rel ρ N s w) (hG : Glob P.globals.size ρ) (hargs : VRs ρ args args') :
    (callFunc f args'.toArray).run P w = .ok (.enter f args'.toArray) w ∧ Calls P f args'.toArray w (QV ρ s w N kV kP) := by
  unfold bodyS at h
  split at h
  · rename_i fn c hb
    obtain ⟨hf, hbody, hok, hname⟩ := enter_body hb
    cases hn : Nat.ble args.length fn.ntmps with
    | false => rw [hn] at h; simp [failB] at h
    | true =>
      rw [hn, cond_true] at h
      have hn' := Nat.le_of_ble_eq_true hn
      refine ⟨by simp [callFunc, hf, hname, hbody], ?_⟩
      refine Wd.calls (ro := none) (n := 0) (callsIn_of_wp_marks hf hbody trivial ?_)
      have hl := hargs.len
      have hF : FrR ρ fn.ntmps ⟨bindArgs args 0 .e, []⟩ { tmps := args'.toArray ++ Array.replicate (fn.ntmps - args'.toArray.size) undef, defers := [] } :=
        ⟨args_env hargs fn.ntmps, by simp; omega, rfl⟩
      have hret : ∀ (ρ' : Rho) (s' : St) (w' : World) (x : SV) (v : Value), VR ρ' x v → Rel ρ' N s' w' → Ext ρ ⟨s.h, s.nx, big⟩ ρ' s' → Below N w w' → backTo s kV x s' = true → QV ρ s w N kV kP (.returned v) w' :=
        fun ρ' s' w' x v h1 h2 h3 h4 h5 => back_sound H h1 h2 h3 h4 h5
      have hpan : ∀ (ρ' : Rho) (s' : St) (w' : World) (x : SV) (v : Value), VR ρ' x v → Rel ρ' N s' w' → Ext ρ ⟨s.h, s.nx, big⟩ ρ' s' → Below N w w' → kP x ⟨s'.h, s'.nx, minN s.lo s'.lo⟩ = true → QV ρ s w N kV kP (.panicked [{ v, recovered := false }]) w' :=
        fun ρ' s' w' x v h1 h2 h3 h4 h5 => ⟨ρ', ⟨s'.h, s'.nx, minN s.lo s'.lo⟩, x, v, rfl, h1, h2.lo _, h3.of_big, h4, h5⟩
      refine wpIn_mono (hI fn.ntmps c _ _ _ _ h ρ N none _ w trivial hok (fun h => absurd rfl h) hF (H.lo big) hG) fun e a1 w1 he => ?_
      have ret : ∀ {a1 : Act} {w1 : World}, (∃ ρ' fr' s', FrR ρ' fn.ntmps fr' a1 ∧ Rel ρ' N s' w1 ∧ Ext ρ ⟨s.h, s.nx, big⟩ ρ' s' ∧ Below N w w1 ∧ leaveX E P ih callF fn s kV kP .ret fr' s' = true) → LeavesInM (Wd none) 0 P fn a1.tmps (QV ρ s w N kV kP) a1.defers .returning w1 := by
        rintro a1 w1 ⟨ρ', fr', s', h1, h2, h3, h4, h5⟩
        simp only [leaveX] at h5
        exact leave_sound hP hC hI hret hpan fr'.ds (.nili, false) s' h5 ρ' a1.defers .returning w1 h1.env h1.size h1.dfr (.inl ⟨rfl, rfl⟩) h2 (hG.mono h3.le) h3 h4
      cases e with
      | normal => exact ret he
      | ret => exact ret he
      | exit i =>
        obtain ⟨ρ', fr', s', h1, h2, h3, h4, h5⟩ := he
        simp [leaveX, failB] at h5
      | panic chain =>
        obtain ⟨ρ', fr', s', x, v, rfl, hv, h1, h2, h3, h4, h5⟩ := he
        simp only [leaveX] at h5
        cases hnx : isNili x with
        | true => rw [hnx] at h5; simp [failB] at h5
        | false =>
          rw [hnx, cond_false] at h5
          exact leave_sound hP hC hI hret hpan fr'.ds (x, false) s' h5 ρ' a1.defers _ w1 h1.env h1.size h1.dfr (.inr ⟨hnx, v, hv, rfl⟩) h2 (hG.mono h3.le) h3 h4
      | goto l => exact he.elim
      | outgrown => exact he.elim
  · simp [failB] at h

/-! ## a round -/
theorem bindPs_sound {ρ : Rho} : ∀ (ps : List Tmp) (args : List SV) (vs : List Value) (env env' : En) (tm : Array Value), bindPs ps args env = some env' → VRs ρ args vs → (∀ t, env.get t ≠ .bad → ∃ v, tm[t]? = some v ∧ VR ρ (env.get t) v) →
    (∀ t ∈ ps, t < tm.size) → ps.length = vs.length ∧ ((ps.zip vs).foldl (fun tm p => tm.setIfInBounds p.1 p.2) tm).size = tm.size ∧
      (∀ t, env'.get t ≠ .bad → ∃ v, ((ps.zip vs).foldl (fun tm p => tm.setIfInBounds p.1 p.2) tm)[t]? = some v ∧ VR ρ (env'.get t) v)
  | [], args, vs, env, env', tm, h, hv, he, hl => by
    cases args with
    | nil =>
      simp only [bindPs, Option.some.injEq] at h
      subst h
      rw [VRs.nil_iff] at hv
      subst hv
      exact ⟨rfl, rfl, he⟩
    | cons x xs => simp [bindPs] at h
  | t :: ts, args, vs, env, env', tm, h, hv, he, hl => by
    cases args with
    | nil => simp [bindPs] at h
    | cons x xs =>
      simp only [bindPs] at h
      obtain ⟨y, ys, h1, h2, rfl⟩ := hv.cons_inv
      have hlt : t < tm.size := hl t (by simp)
      have := bindPs_sound ts xs ys (env.set t x) env' (tm.setIfInBounds t y) h h2 (fun k hk => by
        by_cases e : k = t
        · subst e
          rcases En.get_set_eq env k x with hg | hg
          · rw [hg]; exact ⟨y, by simp [hlt], h1⟩
          · exact absurd hg hk
        · rw [En.get_set_ne _ _ _ _ e] at hk ⊢
          obtain ⟨v, q1, q2⟩ := he k hk
          refine ⟨v, ?_, q2⟩
          rw [Array.getElem?_setIfInBounds, if_neg (fun h => e h.symm)]
          exact q1) (fun k hk => by rw [Array.size_setIfInBounds]; exact hl k (by simp [hk]))
      obtain ⟨k1, k2, k3⟩ := this
      refine ⟨by simp [k1], ?_, ?_⟩
      · simp only [List.zip_cons_cons, List.foldl_cons]; rw [k2, Array.size_setIfInBounds]
      · simp only [List.zip_cons_cons, List.foldl_cons]; exact k3
theorem run_yield {w : World} {r : Nat} {l : Loop} (h : w.heap[r]? = some (.loop l)) {args : List Value} (hl : l.params.toList.length = args.length) : (Instr.yield r args.toArray).run P w =
    .ok (.round r l.fn ((l.params.toList.zip args).foldl (fun tm p => tm.setIfInBounds p.1 p.2) l.tmps) l.assign l.body) w := by
  have hs : args.length = l.params.size := by rw [← hl]; simp
  have hz : (l.params.zip args.toArray).foldl (fun tm (p : Tmp × Value) => tm.setIfInBounds p.1 p.2) l.tmps = (l.params.toList.zip args).foldl (fun tm p => tm.setIfInBounds p.1 p.2) l.tmps := by
    rw [← Array.foldl_toList]; simp
  simp only [Instr.yield, Sem.run_bind, run_getLoop h, Result.andThen_ok]
  rw [if_neg (by simp [hs])]
  simp only [Sem.run_pure, Sem.run_bind, Result.andThen_ok]
  exact congrArg (fun x => Result.ok (Next.round r l.fn x l.assign l.body) w) hz
theorem run_beginRound {w : World} {r : Nat} {l : Loop} (h : w.heap[r]? = some (.loop l)) (hs : l.state = .ready) : (Instr.beginRound r).run P w = .ok () (putB w r (.loop { l with state := .busy })) := by
  simp [Instr.beginRound, run_getLoop h, run_setObj w r _ _ h (by simp), hs]
theorem run_endRound {w : World} {r : Nat} {l : Loop} (h : w.heap[r]? = some (.loop l)) (j : Option Code) : (Instr.endRound r j).run P w = .ok (.bool j.isNone) (putB w r (.loop { l with state := if j.isNone then .ready else .done, pending := j })) := by
  simp [Instr.endRound, run_getLoop h, run_setObj w r _ _ h (by simp)]
theorem endRound_sound {ρ0 ρ : Rho} {s0 s : St} {w0 w : World} {N : Bound I} {kV kP : KV} {b r base e : Nat} {j : Option Code} (h : endRoundS b j s kV = true) (H : Rel ρ N s w) (hb : ρ b = some (r, base, e)) (hE : Ext ρ0 s0 ρ s) (hB : Below N w0 w) :
    ∃ v w', (Instr.endRound r j).run P w = .ok v w' ∧ QV ρ0 s0 w0 N kV kP (.returned v) w' := by
  unfold endRoundS at h
  split at h
  · rename_i n env ps x y st pend dm hg
    have hL := H.live _ _ _ _ hb
    rw [hg] at hL
    obtain ⟨l, r', base', e', h1, h2, h3, h4, h5, h6, h7, h8, h9, h10⟩ := hL
    have hw : writable (s.h.get b) = true := by rw [hg]; rfl
    refine ⟨_, _, run_endRound h1 j, ?_⟩
    cases j with
    | none =>
      simp only at h
      refine ⟨ρ, _, _, ?_, H.put (blk := .lp n env ps x y 0 none dm) (o := .loop { l with state := .ready, pending := none }) hb hw ?_, hE.trans (Ext.put H hb _), hB.trans (Below.putB (H.low _ _ _ _ hb hw)), h⟩
      · simp [VR]
      · exact ⟨_, r', base', e', rfl, h2, h3, h4, h5, h6, rfl, rfl, h9, h10⟩
    | some c =>
      simp only at h
      refine ⟨ρ, _, _, ?_, H.put (blk := .lp n env ps x y 2 (some c) dm) (o := .loop { l with state := .done, pending := some c }) hb hw ?_, hE.trans (Ext.put H hb _), hB.trans (Below.putB (H.low _ _ _ _ hb hw)), h⟩
      · simp [VR]
      · exact ⟨_, r', base', e', rfl, h2, h3, h4, h5, h6, rfl, rfl, h9, h10⟩
  · simp [failB] at h
theorem round_sound {ih : Nat → Nat → IH} (hI : ∀ l n, CodeSound I P (some l) n (ih l n)) {b : Nat} {args : List SV} {s : St} {kV kP : KV} (h : roundS P.globals.size ih b args s kV = true)
    {ρ : Rho} {N : Bound I} {w : World} {args' : List Value} {r base e : Nat} (H : Rel ρ N s w) (hG : Glob P.globals.size ρ) (hargs : VRs ρ args args') (hb : ρ b = some (r, base, e)) :
    ∃ (fn : FuncId) (tmps : Array Value) (assign body : Code), (Instr.yield r args'.toArray).run P w = .ok (.round r fn tmps assign body) w ∧ ∀ ro, RoundIn (Wd ro) 0 P r fn tmps assign body w (QV ρ s w N kV kP) := by
  unfold roundS at h
  split at h
  · rename_i n env ps x y st pend dm hg
    cases hc : (Nat.beq st 0 && (noDfr x && noDfr y) && (codeOk n P.globals.size x && codeOk n P.globals.size y) && ps.toList.all (fun t => Nat.ble (Nat.succ t) n)) with
    | false => rw [hc] at h; simp [failB] at h
    | true =>
      rw [hc, cond_true] at h
      simp only [Bool.and_eq_true] at hc
      obtain ⟨⟨⟨hst, hdx, hdy⟩, hkx, hky⟩, hps⟩ := hc
      split at h
      · rename_i env' hbind
        have hL := H.live _ _ _ _ hb
        rw [hg] at hL
        obtain ⟨l, r', base', e', h1, h2, h3, h4, h5, h6, h7, h8, h9, h10⟩ := hL
        have hbd := bindPs_sound ps.toList args args' env env' l.tmps hbind hargs h3 (fun t ht => by
          have := List.all_eq_true.1 hps t ht
          have h' : t + 1 ≤ n := Nat.le_of_ble_eq_true this
          rw [← h2] at h'
          exact h')
        subst h4 h5 h6
        refine ⟨l.fn, _, l.assign, l.body, run_yield h1 hbd.1, fun ro => roundIn_of_wpIn trivial ?_⟩
        have hF : FrR ρ n ⟨env', []⟩ { tmps := ((l.params.toList.zip args').foldl (fun tm p => tm.setIfInBounds p.1 p.2) l.tmps), defers := [] } := ⟨hbd.2.2, by rw [← h2]; exact hbd.2.1, rfl⟩
        refine wpIn_mono (F := Wd (some r)) (hI b n _ _ _ _ _ h ρ N (some r) _ w ⟨base, e, hb⟩ hkx (fun _ => hdx) hF H hG) fun e1 a1 w1 he => ?_
        cases e1 with
        | normal =>
          obtain ⟨ρ1, fr1, s1, k1, k2, k3, k4, k5⟩ := he
          simp only at k5
          split at k5
          · rename_i n1 env1 ps1 x1 y1 st1 pend1 dm1 hg1
            cases hst1 : Nat.beq st1 0 with
            | false => rw [hst1] at k5; simp [failB] at k5
            | true =>
              rw [hst1, cond_true] at k5
              obtain rfl := Nat.eq_of_beq_eq_true hst1
              have hb1 := k3.le _ _ hb
              have hL1 := k2.live _ _ _ _ hb1
              rw [hg1] at hL1
              obtain ⟨l1, r1, base1, e1, g1, g2, g3, g4, g5, g6, g7, g8, g9, g10⟩ := hL1
              have hw1 : writable (s1.h.get b) = true := by rw [hg1]; rfl
              refine ⟨_, run_beginRound g1 g7, ?_⟩
              have H1 := k2.put (blk := .lp n1 env1 ps1 x1 y1 1 pend1 dm1) (o := .loop { l1 with state := .busy }) hb1 hw1 ⟨_, r1, base1, e1, rfl, g2, g3, g4, g5, g6, rfl, g8, g9, g10⟩
              have E1 := k3.trans (Ext.put k2 hb1 (.lp n1 env1 ps1 x1 y1 1 pend1 dm1))
              have B1 := k4.trans (Below.putB (o := .loop { l1 with state := .busy }) (k2.low _ _ _ _ hb1 hw1))
              refine wpIn_mono (F := Wd (some r)) (hI b n _ _ _ _ _ k5 ρ1 N (some r) a1 _ ⟨base, e, hb1⟩ hky (fun _ => hdy) k1 H1 (hG.mono k3.le)) fun e2 a2 w2 he2 => ?_
              cases e2 with
              | normal =>
                obtain ⟨ρ2, fr2, s2, m1, m2, m3, m4, m5⟩ := he2
                exact endRound_sound m5 m2 (m3.le _ _ hb1) (E1.trans m3) (B1.trans m4)
              | ret =>
                obtain ⟨ρ2, fr2, s2, m1, m2, m3, m4, m5⟩ := he2
                exact endRound_sound m5 m2 (m3.le _ _ hb1) (E1.trans m3) (B1.trans m4)
              | exit i =>
                obtain ⟨ρ2, fr2, s2, m1, m2, m3, m4, m5⟩ := he2
                exact endRound_sound m5 m2 (m3.le _ _ hb1) (E1.trans m3) (B1.trans m4)
              | panic ch =>
                obtain ⟨ρ2, fr2, s2, x, v, m0, m0', m1, m2, m3, m4, m5⟩ := he2
                simp [failB] at m5
              | goto t => exact he2.elim
              | outgrown => exact he2.elim
          · simp [failB] at k5
        | exit i => obtain ⟨ρ1, fr1, s1, k1, k2, k3, k4, k5⟩ := he; simp [failB] at k5
        | ret => obtain ⟨ρ1, fr1, s1, k1, k2, k3, k4, k5⟩ := he; simp [failB] at k5
        | panic ch => obtain ⟨ρ1, fr1, s1, x, v, k0, k0', k1, k2, k3, k4, k5⟩ := he; simp [failB] at k5
        | goto t => exact he.elim
        | outgrown => exact he.elim
      · simp [failB] at h
  · simp [failB] at h

/-! ## externs, and calls of which it is known what they give -/
/-- what is asked of an extern -/
def RowOk (I : Rho → World → Prop) (P : Program) (f : FuncId) (k : XK) : Prop := ∀ (args : List SV) (s : St) (kV kP : KV), extS k args s kV = true →
  ∀ (ρ : Rho) (N : Bound I) (w : World) (args' : List Value), Rel ρ N s w → Glob P.globals.size ρ → VRs ρ args args' →
    ∃ v w', (callFunc f args'.toArray).run P w = .ok (.value v) w' ∧ QV ρ s w N kV kP (.returned v) w'
/-- what is asked at the end of a row's call -/
def RowEnd (ρ : Rho) (w w' : World) (r : KRow) (v : Value) : Prop := match r.news with
  | none => VR ρ r.res v
  | some l => ∃ ρ' : Rho, ρ.le ρ' ∧ VR ρ' r.res v ∧ (∀ b, r.nx + l.length ≤ b → ρ' b = none) ∧ (∀ b, b < r.nx → ρ' b = ρ b) ∧ (∀ b q base e, ρ' b = some (q, base, e) → q < w'.heap.size) ∧
      (∀ i blk, l[i]? = some blk → ∀ q base e, ρ' (r.nx + i) = some (q, base, e) → BR ρ' base e blk w'.heap[q]? ∧ (isNone blk = false → w.heap.size ≤ q)) ∧
      (∀ i j blk blk', l[i]? = some blk → l[j]? = some blk' → isNone blk = false → isNone blk' = false → ∀ q base e base' e', ρ' (r.nx + i) = some (q, base, e) → ρ' (r.nx + j) = some (q, base', e') → i = j) ∧
      (∀ i : Nat, ∀ blk, l[i]? = some blk → isNone blk = false → writable blk = true)
/-- what is asked of a row of calls -/
structure KRowOk (I : Rho → World → Prop) (P : Program) (f : FuncId) (r : KRow) : Prop where
  body : (bodyOf P f).isSome = true
  calls : ∀ (ρ : Rho) (w : World) (args' : List Value), I ρ w → Glob P.globals.size ρ → (r.nx ≠ 0 → ∀ b, r.nx ≤ b → ρ b = none) → (∀ b q base e, ρ b = some (q, base, e) → q < w.heap.size) →
    (∀ x ∈ r.bs, ∀ q base e, ρ x.1 = some (q, base, e) → BR ρ base e (.ro x.2.1 x.2.2) w.heap[q]?) → VRs ρ r.args args' →
    Calls P f args'.toArray w (fun e w' => ∃ v, e = .returned v ∧ Below w.heap.size w w' ∧ RowEnd ρ w w' r v)
/-- what is asked of the table -/
structure XOk (I : Rho → World → Prop) (P : Program) (X : FuncId → Option XK) : Prop where
  ext : ∀ (f : FuncId) (k : XK), X f = some k → isKnown k = false → RowOk I P f k
  known : ∀ (f : FuncId) (rows : List KRow), X f = some (.known rows) → ∀ r ∈ rows, KRowOk I P f r
theorem BR.ro {ρ : Rho} {base e ty : Nat} {cs : List SV} {blk : SBlk} {o : Option Obj} (h : roFits ty cs blk = true) (hB : BR ρ base e blk o) : BR ρ base e (.ro ty cs) o := by
  cases blk <;> simp only [roFits] at h <;> try cases h
  · rename_i t ds
    cases ht : Nat.beq t ty with
    | false => rw [ht] at h; cases h
    | true =>
      rw [ht, cond_true] at h
      obtain rfl := samesF_eq _ _ _ h
      obtain ⟨rc, h1, _, _, _, h4⟩ := hB
      exact ⟨rc, _, _, h1, h4⟩
  · rename_i t ds ub fz st
    cases ht : Nat.beq t ty with
    | false => rw [ht] at h; cases h
    | true =>
      rw [ht, cond_true] at h
      obtain rfl := samesF_eq _ _ _ h
      obtain ⟨rc, fz', h1, _, _, _, h4, _⟩ := hB
      exact ⟨rc, _, _, h1, h4⟩
  · rename_i t ds
    cases ht : Nat.beq t ty with
    | false => rw [ht] at h; cases h
    | true =>
      rw [ht, cond_true] at h
      obtain rfl := samesF_eq _ _ _ h
      exact hB
theorem blocksFit_mem {h : Hp} : ∀ {bs : List (Nat × Nat × List SV)}, blocksFit h bs = true → ∀ x ∈ bs, roFits x.2.1 x.2.2 (h.get x.1) = true
  | [], _, x, hx => by cases hx
  | b :: bs, hf, x, hx => by
    simp only [blocksFit] at hf
    cases hb : roFits b.2.1 b.2.2 (h.get b.1) with
    | false => rw [hb] at hf; cases hf
    | true =>
      rw [hb, cond_true] at hf
      rcases List.mem_cons.1 hx with rfl | hx
      · exact hb
      · exact blocksFit_mem hf x hx
theorem Rel.later {ρ : Rho} {N : Bound I} {s : St} {w w' : World} (H : Rel ρ N s w) (hB : Below w.heap.size w w') : Rel ρ N s w' where
  fresh := H.fresh
  live b r base e hb := by rw [hB.block r (H.bound _ _ _ _ hb)]; exact H.live _ _ _ _ hb
  bound b r base e hb := Nat.lt_of_lt_of_le (H.bound _ _ _ _ hb) hB.size
  low := H.low
  inj := H.inj
  size := Nat.le_trans H.size hB.size
  inv := N.stable _ _ _ _ H.inv (Rho.le_refl ρ) (hB.mono H.size)
theorem nxFits_eq {r : KRow} {s : St} (h : nxFits r s = true) : (r.nx ≠ 0 → s.nx = r.nx) ∧ (r.nx = 0 → r.news = none) := by
  unfold nxFits at h
  cases hb : Nat.beq r.nx 0 with
  | true =>
    rw [hb, cond_true] at h
    have h0 := Nat.eq_of_beq_eq_true hb
    refine ⟨fun h' => absurd h0 h', fun _ => ?_⟩
    cases hn : r.news with
    | none => rfl
    | some l => rw [hn] at h; cases h
  | false =>
    rw [hb, cond_false] at h
    exact ⟨fun _ => Nat.eq_of_beq_eq_true h, fun h' => by rw [h'] at hb; simp at hb⟩
theorem findRow_some {args : List SV} {s : St} {v : KRow} : ∀ {rows : List KRow}, findRow args s rows = some v → v ∈ rows ∧ nxFits v s = true ∧ args = v.args ∧ blocksFit s.h v.bs = true
  | [], h => by simp [findRow] at h
  | r :: rs, h => by
    simp only [findRow] at h
    have tl : findRow args s rs = some v → v ∈ r :: rs ∧ nxFits v s = true ∧ args = v.args ∧ blocksFit s.h v.bs = true := fun h => by
      obtain ⟨h1, h2⟩ := findRow_some h
      exact ⟨List.mem_cons_of_mem _ h1, h2⟩
    cases hn : nxFits r s with
    | false => rw [hn, cond_false] at h; exact tl h
    | true =>
      rw [hn, cond_true] at h
      cases hf : rowFits r args s with
      | false => rw [hf, cond_false] at h; exact tl h
      | true =>
        rw [hf, cond_true] at h
        unfold rowFits at hf
        cases ha : sameF.samesF 1000 args r.args with
        | false => rw [ha] at hf; cases hf
        | true =>
          rw [ha, cond_true] at hf
          cases h
          exact ⟨List.mem_cons_self, hn, samesF_eq _ _ _ ha, hf⟩
theorem pushAll_nx : ∀ (l : List SBlk) (s : St), (pushAll l s).nx = s.nx + l.length
  | [], s => by simp [pushAll]
  | b :: l, s => by
    simp only [pushAll, List.length_cons]
    rw [pushAll_nx l (s.new b)]
    show Nat.succ s.nx + l.length = _
    omega
theorem pushAll_lo : ∀ (l : List SBlk) (s : St), (pushAll l s).lo = s.lo
  | [], s => rfl
  | b :: l, s => by simp only [pushAll]; rw [pushAll_lo l (s.new b)]; rfl
theorem pushAll_old : ∀ (l : List SBlk) (s : St) (b : Nat), b < s.nx → (pushAll l s).h.get b = s.h.get b
  | [], s, b, _ => rfl
  | x :: l, s, b, hb => by
    simp only [pushAll]
    rw [pushAll_old l (s.new x) b (by show b < Nat.succ s.nx; omega)]
    exact Hp.get_set_ne _ _ _ _ (by omega)
theorem pushAll_new : ∀ (l : List SBlk) (s : St) (i : Nat) (blk : SBlk), l[i]? = some blk → (pushAll l s).h.get (s.nx + i) = blk ∨ (pushAll l s).h.get (s.nx + i) = .none
  | [], s, i, blk, h => by simp at h
  | x :: l, s, 0, blk, h => by
    simp only [List.getElem?_cons_zero, Option.some.injEq] at h
    subst h
    simp only [pushAll, Nat.add_zero]
    rw [pushAll_old l (s.new x) s.nx (by show s.nx < Nat.succ s.nx; omega)]
    exact Hp.get_set_eq _ _ _
  | x :: l, s, i + 1, blk, h => by
    simp only [List.getElem?_cons_succ] at h
    have := pushAll_new l (s.new x) i blk h
    simp only [pushAll]
    have e : (s.new x).nx + i = s.nx + (i + 1) := by show Nat.succ s.nx + i = _; omega
    rw [e] at this
    exact this
/-- a row's own blocks, beside what was there -/
theorem Rel.pushed {ρ ρ' : Rho} {N : Bound I} {s : St} {w w' : World} {r : KRow} {l : List SBlk} (H : Rel ρ N s w) (hn : s.nx = r.nx) (hB : Below w.heap.size w w') (hle : ρ.le ρ')
    (h1 : ∀ b, r.nx + l.length ≤ b → ρ' b = none) (h2 : ∀ b, b < r.nx → ρ' b = ρ b) (h3 : ∀ b q base e, ρ' b = some (q, base, e) → q < w'.heap.size)
    (h4 : ∀ i blk, l[i]? = some blk → ∀ q base e, ρ' (r.nx + i) = some (q, base, e) → BR ρ' base e blk w'.heap[q]? ∧ (isNone blk = false → w.heap.size ≤ q))
    (h5 : ∀ i j blk blk', l[i]? = some blk → l[j]? = some blk' → isNone blk = false → isNone blk' = false → ∀ q base e base' e', ρ' (r.nx + i) = some (q, base, e) → ρ' (r.nx + j) = some (q, base', e') → i = j) (_h6 : ∀ i : Nat, ∀ blk, l[i]? = some blk → isNone blk = false → writable blk = true) :
    Rel ρ' N (pushAll l s) w' := by
  have split : ∀ b x, ρ' b = some x → (b < s.nx ∧ ρ b = some x ∧ (pushAll l s).h.get b = s.h.get b) ∨ (∃ i blk, b = r.nx + i ∧ l[i]? = some blk ∧ ((pushAll l s).h.get b = blk ∨ (pushAll l s).h.get b = .none)) := by
    intro b x hb
    by_cases hlt : b < s.nx
    · left
      exact ⟨hlt, by rw [← h2 b (by omega)]; exact hb, pushAll_old l s b hlt⟩
    · right
      have hlt2 : b < r.nx + l.length := by
        rcases Nat.lt_or_ge b (r.nx + l.length) with h | h
        · exact h
        · rw [h1 b h] at hb; cases hb
      have hi : b - r.nx < l.length := by omega
      refine ⟨b - r.nx, l[b - r.nx], by omega, List.getElem?_eq_getElem hi, ?_⟩
      have := pushAll_new l s (b - r.nx) _ (List.getElem?_eq_getElem hi)
      have e : s.nx + (b - r.nx) = b := by omega
      rw [e] at this
      exact this
  refine ⟨?_, ?_, h3, ?_, ?_, Nat.le_trans H.size hB.size, N.stable _ _ _ _ H.inv hle (hB.mono H.size)⟩
  · intro b hb
    rw [pushAll_nx] at hb
    exact h1 b (by omega)
  · intro b q base e hb
    rcases split b _ hb with ⟨hlt, hq, hg⟩ | ⟨i, blk, rfl, hl, hg⟩
    · rw [hg, hB.block q (H.bound _ _ _ _ hq)]
      exact (H.live _ _ _ _ hq).mono hle
    · rcases hg with hg | hg <;> rw [hg]
      · exact (h4 i blk hl q base e hb).1
      · simp [BR]
  · intro b q base e hb hw
    rcases split b _ hb with ⟨hlt, hq, hg⟩ | ⟨i, blk, rfl, hl, hg⟩
    · rw [hg] at hw; exact H.low _ _ _ _ hq hw
    · rcases hg with hg | hg <;> rw [hg] at hw
      · exact Nat.le_trans H.size ((h4 i blk hl q base e hb).2 (isNone_of_writable hw))
      · simp [writable] at hw
  · intro b b' q base e base' e' hb hb' hw hn'
    rcases split b _ hb with ⟨hlt, hq, hg⟩ | ⟨i, blk, rfl, hl, hg⟩ <;> rcases split b' _ hb' with ⟨hlt', hq', hg'⟩ | ⟨j, blk', rfl, hl', hg'⟩
    · rw [hg] at hw; rw [hg'] at hn'
      exact H.inj _ _ _ _ _ _ _ hq hq' hw hn'
    · rcases hg' with hg' | hg' <;> rw [hg'] at hn'
      · have k1 := (h4 j blk' hl' q base' e' hb').2 hn'
        have k2 := H.bound _ _ _ _ hq
        omega
      · simp [isNone] at hn'
    · rcases hg with hg | hg <;> rw [hg] at hw
      · have k1 := (h4 i blk hl q base e hb).2 (isNone_of_writable hw)
        have k2 := H.bound _ _ _ _ hq'
        omega
      · simp [writable] at hw
    · rcases hg with hg | hg <;> rw [hg] at hw
      · rcases hg' with hg' | hg' <;> rw [hg'] at hn'
        · rw [h5 i j blk blk' hl hl' (isNone_of_writable hw) hn' _ _ _ _ _ hb hb']
        · simp [isNone] at hn'
      · simp [writable] at hw
theorem Ext.pushed {ρ ρ' : Rho} {s : St} {r : KRow} {l : List SBlk} (hn : s.nx = r.nx) (hle : ρ.le ρ') (h2 : ∀ b, b < r.nx → ρ' b = ρ b) : Ext ρ s ρ' (pushAll l s) where
  le := hle
  keep b hb hn' := ⟨by rw [h2 b (by omega)]; exact hn', pushAll_old l s b hb⟩
  nx := by rw [pushAll_nx]; omega
  lo := by rw [pushAll_lo]; omega
  same b hb _ := pushAll_old l s b hb
/-- a function with a body is entered -/
theorem enter_of_body {f : FuncId} (h : (bodyOf P f).isSome = true) (args' : Array Value) (w : World) : (callFunc f args').run P w = .ok (.enter f args') w := by
  unfold bodyOf at h
  split at h
  · rename_i fn' hf
    split at h
    · rename_i c' hbody
      cases hc : (codeOk fn'.ntmps P.globals.size c' && !(fn'.name == "runtime.NumGoroutine")) with
      | false => rw [hc] at h; cases h
      | true =>
        rw [Bool.and_eq_true, Bool.not_eq_true'] at hc
        have h1 : fn'.name ≠ "runtime.NumGoroutine" := by simpa using hc.2
        simp [callFunc, hf, h1, hbody]
    · cases h
  · cases h
theorem call_step (hP : PH P E) {X : FuncId → Option XK} (hX : XOk I P X) {ih : Nat → IH} (hI : ∀ n, CodeSound I P none n (ih n)) {ih2 : Nat → Nat → IH} (hI2 : ∀ l n, CodeSound I P (some l) n (ih2 l n)) (hC : CallSound I P callF) :
    CallSound I P ⟨fun f a s kV kP => callC E X P ih callF f a s kV kP, fun b a s kV _ => roundS P.globals.size ih2 b a s kV⟩ := by
  refine ⟨?_, fun b args s kV kP h ρ N w args' r base e H hG hargs hb => round_sound hI2 h H hG hargs hb⟩
  intro f args s kV kP h ρ N w args' H hG hargs
  simp only [callC] at h
  split at h
  · rename_i k hk
    cases hkn : isKnown k with
    | false => rw [hkn, cond_false] at h; exact .inr (hX.ext f k hk hkn args s kV kP h ρ N w args' H hG hargs)
    | true =>
      rw [hkn, cond_true] at h
      split at h
      · rename_i r hv
        cases k <;> simp only [isKnown] at hkn <;> try cases hkn
        rename_i rows
        obtain ⟨hr, hn, rfl, hb⟩ := findRow_some (show findRow args s rows = some r from hv)
        obtain ⟨k2, k3⟩ := hX.known f rows hk r hr
        refine .inl ⟨enter_of_body k2 _ _, ?_⟩
        refine (k3 ρ w args' H.inv hG (fun hne b hb' => H.fresh b (by have := (nxFits_eq hn).1 hne; omega)) H.bound (fun x hx q base e hq => BR.ro (blocksFit_mem hb x hx) (H.live _ _ _ _ hq)) hargs).mono fun e w' he => ?_
        obtain ⟨u, rfl, hB, hu⟩ := he
        obtain ⟨rnx, rargs, rbs, rres, rnews⟩ := r
        obtain ⟨hn1, hn2⟩ := nxFits_eq hn
        cases rnews with
        | none => exact ⟨ρ, s, _, hu, H.later hB, Ext.refl ρ s, hB.mono H.size, h⟩
        | some l =>
          obtain ⟨ρ', hle, hv', h1, h2, h3, h4, h5, h6⟩ := hu
          have hn : s.nx = rnx := hn1 fun h => by have := hn2 h; simp at this
          exact ⟨ρ', pushAll l s, _, hv', H.pushed (r := ⟨rnx, rargs, rbs, rres, some l⟩) hn hB hle h1 h2 h3 h4 h5 h6, Ext.pushed (r := ⟨rnx, rargs, rbs, rres, some l⟩) hn hle h2, hB.mono H.size, h⟩
      · exact .inl (body_sound hP hC hI h H hG hargs)
  · exact .inl (body_sound hP hC hI h H hG hargs)
/-- **The evaluator is sound.** -/
theorem ev_sound (hM : P.follows .mixedOrders = true) (hP : PH P E) {X : FuncId → Option XK} (hX : XOk I P X) : ∀ m : Nat, (∀ rd n, CodeSound I P rd n ((ev E X P m).c rd n)) ∧ CallSound I P (ev E X P m).f ∧
    (∀ (rd : Option Nat) (n : Nat) (c : Code) (fr : Fr) (s : St) (kN : KN) (kX : KX), (ev E X P m).c rd n (.loop c) fr s kN kX = true →
      ∀ (ρ : Rho) (N : Bound I) (ro : Option Nat) (a : Act) (w : World), RdR ρ rd ro → codeOk n P.globals.size c = true → (rd ≠ none → noDfr c = true) → FrR ρ n fr a → Rel ρ N s w → Glob P.globals.size ρ → Code.roundsIn (Wd ro) 0 P c (QC ρ s w N n kN kX) m a w)
  | 0 => ⟨fun rd n c fr s kN kX h => by simp [ev, failB] at h, ⟨fun f a s kV kP h => by simp [ev, failB] at h, fun b a s kV kP h => by simp [ev, failB] at h⟩, fun rd n c fr s kN kX h => by simp [ev, failB] at h⟩
  | m + 1 => by
    obtain ⟨h1, h2, h3⟩ := ev_sound hM hP hX m
    have hs := fun rd n => code_step hM hP h2 (h1 rd n) (m := m) (h3 rd n)
    exact ⟨fun rd n => (hs rd n).1, call_step hP hX (fun n => h1 none n) (fun l n => h1 (some l) n) h2, fun rd n => (hs rd n).2⟩
theorem call_sound_ev (hM : P.follows .mixedOrders = true) (hP : PH P E) {X : FuncId → Option XK} (hX : XOk I P X) {m : Nat} {f : FuncId} {s : St} {kV kP : KV} (_hf : (P.funcs[f]?.bind (·.body)).isSome = true) (hXf : X f = none) (h : (ev E X P (m + 1)).f.f f [] s kV kP = true)
    {ρ : Rho} {N : Bound I} {w : World} (H : Rel ρ N s w) (hG : Glob P.globals.size ρ) : Calls P f #[] w (QV ρ s w N kV kP) := by
  obtain ⟨h1, h2, h3⟩ := ev_sound hM hP hX m
  have h' : callC E X P ((ev E X P m).c none) (ev E X P m).f f [] s kV kP = true := h
  simp only [callC, hXf] at h'
  exact (body_sound hP h2 (fun n => h1 none n) h' H hG VRs.nil).2
end Go.Sh
