/- Part of a proof that a closed law answers true: the evaluator of the first text is sound; this text is one step of it. No condition. -/
import Derived.Test.YtbnplpeodjknaaaGreatDoorShS
set_option linter.unusedSectionVars false
set_option linter.unusedSimpArgs false
set_option linter.unusedVariables false
namespace Go.Sh
variable [Opq]
open Go.RowKit (Below)
variable {I : Rho → World → Prop}
variable {P : Program} {E : EE} {callF : CallF}
variable {ops : Array Oper} {rows : List Row} {ρ0 : Rho} {s0 : St} {w0 : World} {N : Bound I} {n : Nat} {fr0 : Fr} {a0 : Act}
variable {PI : St → Nat → Oper → En → Prop} {d : Nat} {sv : Nat → SV} {nb : Nat → Option Nat} {ps : List Pend} {fr : Fr} {s : St} {ρ : Rho} {L : Array Bool} {a : Act} {w : World}

/-- both do an act -/
theorem inv_act (F : RF ops rows) (I : Inv PI P ops rows ρ0 s0 w0 N n fr0 a0 d sv nb ps fr s ρ L a w) {i : Nat} {r : Row} (hr : rows[i]? = some r) (hdi : d.testBit i = false) (hlt : i < L.size) (hbe : ∀ j, r.before.testBit j = true → L.getD j false = true)
    (hdst : dstOk n r.o.dst = true) {ρ' : Rho} {s' : St} {x : SV} {v : Value} {w' : World} {fr' : Fr} {a' : Act} (hv : VR ρ' x v) (hrel : Rel ρ' N s' w') (hext : Ext ρ s ρ' s') (hbl : Below N w w')
    (hPI : ∀ i o σ, PI s i o σ → PI s' i o σ) (hfe : fr'.env = putD fr.env r.o.dst x) (hat : a'.tmps = (a.put r.o.dst v).tmps) (hdf : DfR ρ' fr'.ds a'.defers) :
    Inv PI P ops rows ρ0 s0 w0 N n fr0 a0 (d ||| 2 ^ i) (upd sv i x) nb (stillPend r.before ps) fr' s' ρ' (L.setIfInBounds i true) a' w' where
  lsz := by simpa using I.lsz
  LX j hj := by
    rcases (getD_set hlt j).1 hj with h | rfl
    · exact (bit_or d i j).2 (.inl (I.LX j h))
    · exact (bit_or d j j).2 (.inr rfl)
  down k q j hq hk hj := by
    refine (getD_set hlt j).2 (.inl ?_)
    rcases (getD_set hlt k).1 hk with h | rfl
    · exact I.down k q j hq h hj
    · rw [hr] at hq; cases hq; exact hbe j hj
  XR j hj := by
    rcases (bit_or d i j).1 hj with h | rfl
    · exact I.XR j h
    · exact (List.getElem?_eq_some_iff.1 hr).1
  downX k q j hq hk hj := by
    refine (bit_or d i j).2 (.inl ?_)
    rcases (bit_or d i k).1 hk with h | rfl
    · exact I.downX k q j hq h hj
    · rw [hr] at hq; cases hq; exact I.LX j (hbe j hj)
  env t ht := by
    rw [hfe] at ht ⊢
    rcases env_put ht with ⟨h1, h2⟩ | ⟨h1, h2⟩
    · exact .inl ⟨i, r, hr, (bit_or d i i).2 (.inr rfl), h1, by rw [h2, upd_self]⟩
    · have ht' : fr.env.get t ≠ .bad := by rw [← h2]; exact ht
      rcases I.env t ht' with ⟨j, q, hq, hdj, hqd, hv⟩ | ⟨hno, hv⟩
      · have hji : j ≠ i := fun e => by subst e; rw [hdj] at hdi; cases hdi
        exact .inl ⟨j, q, hq, (bit_or d i j).2 (.inl hdj), hqd, by rw [h2, hv, upd_ne _ _ hji]⟩
      · refine .inr ⟨fun j q hq hdj => ?_, by rw [h2, hv]⟩
        rcases (bit_or d i j).1 hdj with h | rfl
        · exact hno j q hq h
        · rw [hr] at hq; cases hq; exact h1
  real k q t hq hk hqd := by
    rw [hat]
    rcases (getD_set hlt k).1 hk with h | rfl
    · have hki : k ≠ i := fun e => by subst e; have := I.LX k h; rw [hdi] at this; cases this
      obtain ⟨u, h1, h2⟩ := I.real k q t hq h hqd
      refine ⟨u, ?_, by rw [upd_ne _ _ hki]; exact VR.mono hext.le _ _ h2⟩
      rw [put_ne (F.uniq i r k q t hr hq hki hqd)]
      exact h1
    · rw [hr] at hq; cases hq
      rw [hqd] at hdst ⊢
      have : t < a.tmps.size := by rw [I.size]; exact Nat.le_of_ble_eq_true hdst
      exact ⟨v, put_eq this, by rw [upd_self]; exact hv⟩
  rest t ht := by
    have hne : r.o.dst ≠ some t := ht i r hr ((getD_set hlt i).2 (.inr rfl))
    rw [hat, put_ne hne]
    exact I.rest t fun k q hq hk => ht k q hq ((getD_set hlt k).2 (.inl hk))
  size := by rw [hat, put_size]; exact I.size
  dfr := hdf
  pend k q hq hk hLk := by
    obtain ⟨h1, h2⟩ := getD_set_false hlt hLk
    have hdk : d.testBit k = true := by
      rcases (bit_or d i k).1 hk with h | h
      · exact h
      · exact absurd h h2
    obtain ⟨σ, hσ, hor⟩ := I.pend k q hq hdk h1
    refine ⟨σ, hσ.upd' I hdi x hq (fun j hj => I.downX k q j hq hdk hj), ?_⟩
    rw [upd_ne _ _ h2]
    rcases hor with h | ⟨g1, g2, g3⟩ | ⟨g1, g2, mk, blk, b, g3, g4, g5, g6, g7, g8⟩ | ⟨g1, g2, g3, g4⟩
    · exact .inl h
    · refine .inr (.inl ⟨g1, g2, ?_⟩)
      unfold stillPend
      rw [List.mem_filter]
      refine ⟨g3, ?_⟩
      cases hb : r.before.testBit k with
      | false => simp
      | true => have := hbe k hb; rw [h1] at this; cases this
    · obtain ⟨e1, e2⟩ := hext.keep b (I.nblt k b g4).1 g6
      exact .inr (.inr (.inl ⟨g1, g2, mk, blk, b, g3, g4, g5, e1, g7, by rw [e2]; exact g8⟩))
    · exact .inr (.inr (.inr ⟨g1, g2, g3, hPI _ _ _ g4⟩))
  nbne := I.nbne
  nblt j b hj := by
    obtain ⟨h1, h2⟩ := I.nblt j b hj
    exact ⟨Nat.lt_of_lt_of_le h1 hext.nx, (bit_or d i j).2 (.inl h2)⟩
  rel := hrel
  ext := I.ext.trans hext
  below := I.below.trans hbl

theorem kind3_op {op : Op} (h : kindOp op = 3) : ∃ t m k v, op = .insert t m k v := by
  cases op <;> simp [kindOp] at h <;> try exact ⟨_, _, _, _, rfl⟩
  rename_i c
  obtain ⟨callee, args, ts⟩ := c
  cases callee with
  | builtin b => cases b <;> simp at h
  | value f => simp at h
  | invoke r m => simp at h
theorem kind3_exec (E : EE) {op : Op} (h : kindOp op = 3) (P : Program) (env : En) (s : St) (x : SV) (s' : St) : exec E op P env s ≠ .v x s' := by
  obtain ⟨t, m, k, v, rfl⟩ := kind3_op h
  simp only [exec, exMapUpdate]
  intro h
  split at h
  · cases h
  · unfold mapPut at h
    split at h
    · rename_i kt e b _ _
      cases hk : keyOk E P s.h kt (evO k env) with
      | false => rw [hk] at h; cases h
      | true =>
        rw [hk, cond_true] at h
        split at h
        · split at h
          · rename_i k' _
            cases hs : sameKey k' (evO k env) <;> rw [hs] at h <;> cases h
          · cases h
          · cases h
        · cases h
    · cases h
/-- all rows of a stage, done by the shadow -/
theorem stage_sound (hPI : ∀ (s : St) (blk : SBlk) i o σ, PI s i o σ → PI (s.new blk) i o σ) (F : RF ops rows) (prev : Nat) (k : KS) : ∀ (st : List Row) (d : Nat) (sv : Nat → SV) (nb : Nat → Option Nat) (ps : List Pend) (fr : Fr) (s : St) (dEnd : Nat),
    (∀ r ∈ st, rows[r.i]? = some r) → stageOk prev st d = some dEnd → evStage E P ops st fr s ps k = true →
    Inv PI P ops rows ρ0 s0 w0 N n fr0 a0 d sv nb ps fr s ρ L a w →
    ∃ sv' nb' ps' fr' s', Inv PI P ops rows ρ0 s0 w0 N n fr0 a0 dEnd sv' nb' ps' fr' s' ρ L a w ∧ pendOk E P s' ps' = true ∧ k fr' s' ps' = true
  | [], d, sv, nb, ps, fr, s, dEnd, _, hst, hev, I => by
    simp only [stageOk] at hst
    cases hst
    simp only [evStage] at hev
    cases hp : pendOk E P s ps with
    | false => rw [hp] at hev; simp [failB] at hev
    | true =>
      rw [hp] at hev
      exact ⟨sv, nb, ps, fr, s, I, hp, hev⟩
  | r :: rs, d, sv, nb, ps, fr, s, dEnd, hmem, hst, hev, I => by
    simp only [stageOk] at hst
    cases hc : (!(isAct r) && !(d.testBit r.i) && Nat.beq (r.before ||| d) d && Nat.beq (prev ||| r.before) r.before) with
    | false => rw [hc] at hst; simp at hst
    | true =>
      rw [hc, cond_true] at hst
      simp only [Bool.and_eq_true, Bool.not_eq_true'] at hc
      obtain ⟨⟨⟨c1, c2⟩, c3⟩, c4⟩ := hc
      have hr := hmem r (by simp)
      obtain ⟨_, hro, hrk⟩ := F.at' r.i r hr
      have hbd : ∀ j, r.before.testBit j = true → d.testBit j = true := fun j hj => sub_of_or c3 j hj
      have hop := opEnv_now F I hr c2 hbd
      have hopu := fun x => hop.upd' I c2 x hr hbd
      have hmem' : ∀ q ∈ rs, rows[q.i]? = some q := fun q hq => hmem q (by simp [hq])
      simp only [evStage] at hev
      split at hev
      · rename_i hw
        split at hev
        · rename_i x s' hex
          cases hk1 : Nat.beq r.kind 1 with
          | true =>
            rw [hk1, cond_true] at hev
            have hkk : kindOp r.o.op = 1 := by rw [← hrk]; exact Nat.eq_of_beq_eq_true hk1
            have hnew := hex
            rw [kind1_exec E hkk] at hnew
            unfold newR at hnew
            split at hnew
            · rename_i mk blk hmk
              cases hnew
              refine stage_sound hPI F prev k rs (d ||| 2 ^ r.i) (upd sv r.i (valOf mk s.nx)) (upd nb r.i (some s.nx)) ps (fr.put r.o.dst (valOf mk s.nx)) (s.new blk) dEnd hmem' hst hev ?_
              refine inv_plan F I hr c2 hbd (fun p hp => hp) (fun j hj => upd_ne _ _ hj) (fun b hb => ?_) (Nat.le_succ _) (fun b hb => .inl (Hp.get_set_ne _ _ _ _ (by omega))) (hPI s blk) (I.rel.prep blk) (I.ext.trans (Ext.prep I.rel blk)) ?_
              · rw [upd_self] at hb; cases hb; exact ⟨rfl, Nat.lt_succ_self _⟩
              · refine ⟨fr.env, hopu _, .inr (.inr (.inl ⟨hw, hkk, mk, blk, s.nx, hmk, upd_self _ _ _, upd_self _ _ _, I.rel.fresh _ (Nat.le_refl _), I.ext.nx, ?_⟩))⟩
                exact (Hp.get_set_eq s.h s.nx blk).imp id fun h => by rw [show (s.new blk).h.get s.nx = .none from h]; rfl
            · cases hnew
          | false =>
            rw [hk1, cond_false] at hev
            cases hnx : Nat.beq s'.nx s.nx with
            | false => rw [hnx] at hev; simp [failB] at hev
            | true =>
              rw [hnx, cond_true] at hev
              refine stage_sound hPI F prev k rs (d ||| 2 ^ r.i) (upd sv r.i x) (upd nb r.i none) (⟨r.i, r.o.op, fr.env, x⟩ :: ps) (fr.put r.o.dst x) s dEnd hmem' hst hev ?_
              refine inv_plan F I hr c2 hbd (fun p hp => by simp [hp]) (fun j hj => upd_ne _ _ hj) (fun b hb => ?_) (Nat.le_refl _) (fun b hb => .inl rfl) (fun _ _ _ h => h) I.rel I.ext ?_
              · rw [upd_self] at hb; cases hb
              · have hkk : kindOp r.o.op = 0 := by
                  have hle : kindOp r.o.op = 0 ∨ kindOp r.o.op = 1 ∨ kindOp r.o.op = 2 ∨ kindOp r.o.op = 3 := by
                    unfold kindOp
                    split <;> simp
                  rcases hle with h | h | h | h
                  · exact h
                  · rw [hrk, h] at hk1; simp at hk1
                  · simp only [isAct] at c1; rw [hrk, h] at c1; simp at c1
                  · exact absurd hex (kind3_exec E h P fr.env s x s')
                exact ⟨fr.env, hopu _, .inr (.inl ⟨hw, hkk, by rw [upd_self]; simp⟩)⟩
        · simp [failB] at hev
        · simp [failB] at hev
      · rename_i hw
        refine stage_sound hPI F prev k rs (d ||| 2 ^ r.i) (upd sv r.i (.tup [])) (upd nb r.i none) ps (fr.put r.o.dst (.tup [])) s dEnd hmem' hst hev ?_
        refine inv_plan F I hr c2 hbd (fun p hp => hp) (fun j hj => upd_ne _ _ hj) (fun b hb => ?_) (Nat.le_refl _) (fun b hb => .inl rfl) (fun _ _ _ h => h) I.rel I.ext ?_
        · rw [upd_self] at hb; cases hb
        · exact ⟨fr.env, hopu _, .inl ⟨hw, upd_self _ _ _⟩⟩
      · simp [failB] at hev
end Go.Sh
