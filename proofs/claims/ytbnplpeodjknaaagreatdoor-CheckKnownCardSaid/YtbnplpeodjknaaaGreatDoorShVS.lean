/- Part of a proof that a closed law answers true: the evaluator of the first text is sound; this text is one step of it. No condition. -/
import Derived.Test.YtbnplpeodjknaaaGreatDoorShVR
set_option linter.unusedSectionVars false
set_option linter.unusedSimpArgs false
set_option linter.unusedVariables false
namespace Go.Sh
variable [Opq]
open Go.RowKit (Below)
variable {I : Rho → World → Prop}
variable {P : Program} {E : EE} {callF : CallF}
variable {ops : Array Oper} {rows : List Row} {ρ0 : Rho} {s0 : St} {w0 : World} {N : Bound I} {n : Nat} {fr0 : Fr} {a0 : Act}
variable {d : Nat} {sv : Nat → SV} {nb : Nat → Option Nat} {ps : List Pend} {ms : List Nat} {fr : Fr} {s : St} {ρ : Rho} {L : Array Bool} {a : Act} {w : World}

theorem QI.keep {s' : St} (hq : ∀ b ∈ ms, s'.h.get b = s.h.get b) (i : Nat) (o : Oper) (σ : En) (h : QI P ms s i o σ) : QI P ms s' i o σ := by
  obtain ⟨t, tm, k, v, kt, et, b, l, m, es, g1, g2, g3, g4, g5, g6, g7, g8, g9⟩ := h
  exact ⟨t, tm, k, v, kt, et, b, l, m, es, g1, g2, g3, g4, g5, g6, g7, (hq b g7).trans g8, g9⟩
theorem nb_none (J : InvQ P ops rows ρ0 s0 w0 N n fr0 a0 d sv nb ps ms fr s ρ L a w) {i : Nat} (hdi : d.testBit i = false) : nb i = none := by
  cases hh : nb i with
  | none => rfl
  | some b' => have := (J.inv.nblt i b' hh).2; rw [hdi] at this; cases this
/-- all rows of a stage, done by the shadow, while maps are being filled -/
theorem stageQ_sound (F : RF ops rows) (prev : Nat) (k : KQ) : ∀ (st : List Row) (d : Nat) (sv : Nat → SV) (nb : Nat → Option Nat) (ps : List Pend) (ms : List Nat) (fr : Fr) (s : St) (dEnd : Nat),
    (∀ r ∈ st, rows[r.i]? = some r) → stageOk prev st d = some dEnd → evStageQ E P ops rows s0.nx st fr s ps ms k = true →
    InvQ P ops rows ρ0 s0 w0 N n fr0 a0 d sv nb ps ms fr s ρ L a w →
    ∃ sv' nb' ps' ms' fr' s', InvQ P ops rows ρ0 s0 w0 N n fr0 a0 dEnd sv' nb' ps' ms' fr' s' ρ L a w ∧ pendOk E P s' ps' = true ∧ k fr' s' ps' ms' = true
  | [], d, sv, nb, ps, ms, fr, s, dEnd, _, hst, hev, J => by
    simp only [stageOk] at hst
    cases hst
    simp only [evStageQ] at hev
    cases hp : pendOk E P s ps with
    | false => rw [hp] at hev; simp [failB] at hev
    | true =>
      rw [hp] at hev
      exact ⟨sv, nb, ps, ms, fr, s, J, hp, hev⟩
  | r :: rs, d, sv, nb, ps, ms, fr, s, dEnd, hmem, hst, hev, J => by
    simp only [stageOk] at hst
    cases hc : (!(isAct r) && !(d.testBit r.i) && Nat.beq (r.before ||| d) d && Nat.beq (prev ||| r.before) r.before) with
    | false => rw [hc] at hst; simp at hst
    | true =>
      rw [hc, cond_true] at hst
      simp only [Bool.and_eq_true, Bool.not_eq_true'] at hc
      obtain ⟨⟨⟨c1, c2⟩, c3⟩, c4⟩ := hc
      have hr := hmem r (by simp)
      obtain ⟨_, hro, hrk⟩ := F.at' r.i r hr
      have hbd : ∀ j, r.before.testBit j = true → d.testBit j = true := fun j hj => sub_of_or c3 j hj
      have hop := opEnv_now F J.inv hr c2 hbd
      have hopu := fun x => hop.upd' J.inv c2 x hr hbd
      have hmem' : ∀ q ∈ rs, rows[q.i]? = some q := fun q hq => hmem q (by simp [hq])
      have hni := nb_none J c2
      -- the rest of the invariant, when a row that fills nothing is done
      have rest : ∀ (x : SV) (nb' : Nat → Option Nat) (ps' : List Pend) (s' : St), (∀ j b, nb j = some b → nb' j = some b) → s.nx ≤ s'.nx → (∀ b, b < s.nx → s'.h.get b = s.h.get b) → (isMk r.o.op = true → ∀ b, x = .mp b → nb' r.i = some b) →
          Inv (QI P ms) P ops rows ρ0 s0 w0 N n fr0 a0 (d ||| 2 ^ r.i) (upd sv r.i x) nb' ps' (fr.put r.o.dst x) s' ρ L a w → InvQ P ops rows ρ0 s0 w0 N n fr0 a0 (d ||| 2 ^ r.i) (upd sv r.i x) nb' ps' ms (fr.put r.o.dst x) s' ρ L a w := by
        intro x nb' ps' s' h1 h2 h3 h4 J'
        refine ⟨J', J.mnd, fun b hb => (J.mq b hb).keep (fun j h => h1 j b h) (fun i h => (bit_or d r.i i).2 (.inl h)) h2 (h3 b (J.mq b hb).2.1), fun j q hq hmk hdj b hb => ?_⟩
        by_cases e : j = r.i
        · subst e
          rw [upd_self] at hb
          rw [hr] at hq; cases hq
          exact h4 hmk b hb
        · rw [upd_ne _ _ e] at hb
          rcases (bit_or d r.i j).1 hdj with h | h
          · exact h1 j b (J.kq j q hq hmk h b hb)
          · exact absurd h e
      have hnbu : ∀ y j b, nb j = some b → upd nb r.i y j = some b := fun y j b h => by
        rw [upd_ne]
        · exact h
        · intro e; subst e; rw [hni] at h; cases h
      simp only [evStageQ] at hev
      split at hev
      · rename_i hw
        cases hins : isIns r with
        | true =>
          rw [hins, cond_true] at hev
          have hk3 : kindOp r.o.op = 3 := by rw [← hrk]; exact Nat.eq_of_beq_eq_true hins
          split at hev
          · rename_i s' ms' hp
            exact stageQ_sound F prev k rs _ _ _ ps ms' _ s' dEnd hmem' hst hev (inv_ins F J hr rfl c2 hbd hw hk3 hp)
          · simp [failB] at hev
        | false =>
          rw [hins, cond_false] at hev
          split at hev
          · rename_i x s' hex
            cases hk1 : Nat.beq r.kind 1 with
            | true =>
              rw [hk1, cond_true] at hev
              have hkk : kindOp r.o.op = 1 := by rw [← hrk]; exact Nat.eq_of_beq_eq_true hk1
              have hnew := hex
              rw [kind1_exec E hkk] at hnew
              unfold newR at hnew
              split at hnew
              · rename_i mk blk hmk
                cases hnew
                refine stageQ_sound F prev k rs (d ||| 2 ^ r.i) (upd sv r.i (valOf mk s.nx)) (upd nb r.i (some s.nx)) ps ms (fr.put r.o.dst (valOf mk s.nx)) (s.new blk) dEnd hmem' hst hev ?_
                refine rest _ _ _ _ (hnbu _) (Nat.le_succ _) (fun b hb => Hp.get_set_ne _ _ _ _ (by omega)) (fun _ b hb => ?_) ?_
                · rw [upd_self]
                  cases mk <;> simp only [valOf] at hb <;> cases hb
                  rfl
                · refine inv_plan F J.inv hr c2 hbd (fun p hp => hp) (fun j hj => upd_ne _ _ hj) (fun b hb => ?_) (Nat.le_succ _) (fun b hb => .inl (Hp.get_set_ne _ _ _ _ (by omega))) (QI.keep fun b hb => Hp.get_set_ne _ _ _ _ (by have := (J.mq b hb).2.1; omega)) (J.inv.rel.prep blk) (J.inv.ext.trans (Ext.prep J.inv.rel blk)) ?_
                  · rw [upd_self] at hb; cases hb; exact ⟨rfl, Nat.lt_succ_self _⟩
                  · refine ⟨fr.env, hopu _, .inr (.inr (.inl ⟨hw, hkk, mk, blk, s.nx, hmk, upd_self _ _ _, upd_self _ _ _, J.inv.rel.fresh _ (Nat.le_refl _), J.inv.ext.nx, ?_⟩))⟩
                    exact (Hp.get_set_eq s.h s.nx blk).imp id fun h => by rw [show (s.new blk).h.get s.nx = .none from h]; rfl
              · cases hnew
            | false =>
              rw [hk1, cond_false] at hev
              cases hnx : Nat.beq s'.nx s.nx with
              | false => rw [hnx] at hev; simp [failB] at hev
              | true =>
                rw [hnx, cond_true] at hev
                have hkk : kindOp r.o.op = 0 := by
                  have hle : kindOp r.o.op = 0 ∨ kindOp r.o.op = 1 ∨ kindOp r.o.op = 2 ∨ kindOp r.o.op = 3 := by
                    unfold kindOp
                    split <;> simp
                  rcases hle with h | h | h | h
                  · exact h
                  · rw [hrk, h] at hk1; simp at hk1
                  · simp only [isAct] at c1; rw [hrk, h] at c1; simp at c1
                  · exact absurd hex (kind3_exec E h P fr.env s x s')
                refine stageQ_sound F prev k rs (d ||| 2 ^ r.i) (upd sv r.i x) (upd nb r.i none) (⟨r.i, r.o.op, fr.env, x⟩ :: ps) ms (fr.put r.o.dst x) s dEnd hmem' hst hev ?_
                refine rest _ _ _ _ (hnbu _) (Nat.le_refl _) (fun b hb => rfl) (fun hmk => by rw [isMk_kind hmk] at hkk; cases hkk) ?_
                refine inv_plan F J.inv hr c2 hbd (fun p hp => by simp [hp]) (fun j hj => upd_ne _ _ hj) (fun b hb => ?_) (Nat.le_refl _) (fun b hb => .inl rfl) (fun _ _ _ h => h) J.inv.rel J.inv.ext ?_
                · rw [upd_self] at hb; cases hb
                · exact ⟨fr.env, hopu _, .inr (.inl ⟨hw, hkk, by rw [upd_self]; simp⟩)⟩
          · simp [failB] at hev
          · simp [failB] at hev
      · rename_i hw
        refine stageQ_sound F prev k rs (d ||| 2 ^ r.i) (upd sv r.i (.tup [])) (upd nb r.i none) ps ms (fr.put r.o.dst (.tup [])) s dEnd hmem' hst hev ?_
        refine rest _ _ _ _ (hnbu _) (Nat.le_refl _) (fun b hb => rfl) (fun _ b hb => by cases hb) ?_
        refine inv_plan F J.inv hr c2 hbd (fun p hp => hp) (fun j hj => upd_ne _ _ hj) (fun b hb => ?_) (Nat.le_refl _) (fun b hb => .inl rfl) (fun _ _ _ h => h) J.inv.rel J.inv.ext ?_
        · rw [upd_self] at hb; cases hb
        · exact ⟨fr.env, hopu _, .inl ⟨hw, upd_self _ _ _⟩⟩
      · simp [failB] at hev
/-! ## the run fills a map -/
theorem filter_set {es : List (Nat × Nat × Nat × SV)} {i : Nat} (_hlt : i < L.size) (hno : ∀ x ∈ es, x.1 ≠ i) : es.filter (fun x => (L.setIfInBounds i true).getD x.1 false) = es.filter fun x => L.getD x.1 false := by
  apply List.filter_congr
  intro x hx
  rw [getD_set_ne false (fun e => hno x hx e.symm)]
theorem filter_take {es : List (Nat × Nat × Nat × SV)} {i l m : Nat} {v : SV} (hlt : i < L.size) (hLi : L.getD i false = false) : (es.map (·.1)).Nodup → (i, l, m, v) ∈ es → (es.filter fun x => (L.setIfInBounds i true).getD x.1 false).Perm ((i, l, m, v) :: es.filter fun x => L.getD x.1 false) := by
  induction es with
  | nil => intro _ h; cases h
  | cons y ys ih =>
    intro hn hm
    simp only [List.map_cons, List.nodup_cons] at hn
    have hset : (L.setIfInBounds i true).getD i false = true := (getD_set hlt i).2 (.inr rfl)
    rcases List.mem_cons.1 hm with rfl | hm
    · rw [List.filter_cons_of_pos (by simpa using hset), List.filter_cons_of_neg (by simp only; rw [hLi]; simp)]
      rw [filter_set hlt fun x hx e => hn.1 (List.mem_map.2 ⟨x, hx, e⟩)]
    · have hne : y.1 ≠ i := fun e => hn.1 (e ▸ List.mem_map.2 ⟨_, hm, rfl⟩)
      have ih' := ih hn.2 hm
      have hy : (L.setIfInBounds i true).getD y.1 false = L.getD y.1 false := getD_set_ne false (fun e => hne e.symm)
      cases hL : L.getD y.1 false with
      | true =>
        rw [List.filter_cons_of_pos (by rw [hy, hL]), List.filter_cons_of_pos (by rw [hL])]
        exact (List.Perm.cons y ih').trans (List.Perm.swap _ _ _)
      | false =>
        rw [List.filter_cons_of_neg (by rw [hy, hL]; simp), List.filter_cons_of_neg (by rw [hL]; simp)]
        exact ih'
end Go.Sh
