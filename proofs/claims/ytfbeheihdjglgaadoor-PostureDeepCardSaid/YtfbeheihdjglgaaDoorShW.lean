/- Part of a proof about calls of this program: the evaluator of the first text is sound; this text is one step of it. No condition. -/
import Derived.Test.YtfbeheihdjglgaaDoorShU
set_option linter.unusedSectionVars false
set_option linter.unusedSimpArgs false
set_option linter.unusedVariables false
namespace Go.Sh
variable [Opq]
open Go.RowKit (Below)
variable {I : Rho → World → Prop}
variable {P : Program} {E : EE} {callF : CallF}
variable {ops : Array Oper} {rows : List Row} {ρ0 : Rho} {s0 : St} {w0 : World} {N : Bound I} {n : Nat} {fr0 : Fr} {a0 : Act}

/-- a row that is not done is one of the acts to come, or one of the rows behind them -/
theorem sched_has {full : Nat} : ∀ (more : Sched) (d : Nat), schedOk full more d = true → ∀ i, full.testBit i = true → d.testBit i = false → ∃ q ∈ more, q.1.i = i ∨ ∃ r ∈ q.2, r.i = i
  | [], d, h, i, hf, hd => by
    simp only [schedOk] at h
    have := Nat.eq_of_beq_eq_true h
    subst this
    rw [hf] at hd; cases hd
  | (e, st) :: more, d, h, i, hf, hd => by
    simp only [schedOk] at h
    cases hc : (!(d.testBit e.i) && Nat.beq (e.before ||| d) d && laterOk e more) with
    | false => rw [hc] at h; simp at h
    | true =>
      rw [hc, cond_true] at h
      split at h
      · rename_i d' hst
        by_cases he : e.i = i
        · exact ⟨(e, st), by simp, .inl he⟩
        · by_cases hin : ∃ r ∈ st, r.i = i
          · exact ⟨(e, st), by simp, .inr hin⟩
          · have hd' : d'.testBit i = false := by
              have key : ∀ (st : List Row) (d d' : Nat), stageOk (2 ^ e.i) st d = some d' → d.testBit i = false → (∀ r ∈ st, r.i ≠ i) → d'.testBit i = false := by
                intro st
                induction st with
                | nil => intro d d' h1 h2 _; simp only [stageOk] at h1; cases h1; exact h2
                | cons r rs ih =>
                  intro d d' h1 h2 h3
                  simp only [stageOk] at h1
                  cases hc : (!(isAct r) && !(d.testBit r.i) && Nat.beq (r.before ||| d) d && Nat.beq (2 ^ e.i ||| r.before) r.before) with
                  | false => rw [hc] at h1; simp at h1
                  | true =>
                    rw [hc, cond_true] at h1
                    refine ih _ _ h1 ?_ fun q hq => h3 q (by simp [hq])
                    cases hb : (d ||| 2 ^ r.i).testBit i with
                    | false => rfl
                    | true =>
                      rcases (bit_or d r.i i).1 hb with h4 | h4
                      · rw [h4] at h2; cases h2
                      · exact absurd h4.symm (h3 r (by simp))
              refine key st _ d' hst ?_ fun r hr hri => hin ⟨r, hr, hri⟩
              cases hb : (d ||| 2 ^ e.i).testBit i with
              | false => rfl
              | true =>
                rcases (bit_or d e.i i).1 hb with h4 | h4
                · rw [h4] at hd; cases hd
                · exact absurd h4.symm he
            obtain ⟨q, hq, hor⟩ := sched_has more d' h i hf hd'
            exact ⟨q, by simp [hq], hor⟩
      · cases h
theorem stageOk_prev {prev : Nat} : ∀ {st : List Row} {d d' : Nat}, stageOk prev st d = some d' → ∀ r ∈ st, ∀ j, prev.testBit j = true → r.before.testBit j = true
  | [], _, _, _, r, hr => by simp at hr
  | x :: st, d, d', h, r, hr => by
    simp only [stageOk] at h
    cases hc : (!(isAct x) && !(d.testBit x.i) && Nat.beq (x.before ||| d) d && Nat.beq (prev ||| x.before) x.before) with
    | false => rw [hc] at h; simp at h
    | true =>
      rw [hc, cond_true] at h
      simp only [Bool.and_eq_true] at hc
      rcases List.mem_cons.1 hr with rfl | hr
      · exact fun j hj => sub_of_or hc.2 j hj
      · exact stageOk_prev h r hr
/-- rows behind a later act wait for that act -/
theorem sched_stage {full : Nat} : ∀ (more : Sched) (d : Nat), schedOk full more d = true → ∀ q ∈ more, ∀ r ∈ q.2, r.before.testBit q.1.i = true
  | [], d, h, q, hq => by simp at hq
  | (e, st) :: more, d, h, q, hq => by
    simp only [schedOk] at h
    cases hc : (!(d.testBit e.i) && Nat.beq (e.before ||| d) d && laterOk e more) with
    | false => rw [hc] at h; simp at h
    | true =>
      rw [hc, cond_true] at h
      split at h
      · rename_i d' hst
        rcases List.mem_cons.1 hq with rfl | hq
        · intro r hr
          exact stageOk_prev hst r hr e.i (by simp)
        · exact sched_stage more d' h q hq
      · cases h
/-- a row whose turn has come, and that the shadow has not done, is the next act -/
theorem ready_next (F : RF ops rows) {d : Nat} {e : Row} {st : List Row} {more : Sched} (hmem : ∀ q ∈ (e, st) :: more, rows[q.1.i]? = some q.1 ∧ ∀ r ∈ q.2, rows[r.i]? = some r) (h : schedOk (2 ^ rows.length - 1) ((e, st) :: more) d = true)
    {i : Nat} {r : Row} (hr : rows[i]? = some r) (hd : d.testBit i = false) (hbe : ∀ j, r.before.testBit j = true → d.testBit j = true) : i = e.i := by
  have h0 := h
  have hfull : (2 ^ rows.length - 1).testBit i = true := by
    rw [Nat.testBit_two_pow_sub_one, decide_eq_true_eq]
    exact (List.getElem?_eq_some_iff.1 hr).1
  obtain ⟨q, hq, hor⟩ := sched_has _ _ h i hfull hd
  simp only [schedOk] at h
  cases hc : (!(d.testBit e.i) && Nat.beq (e.before ||| d) d && laterOk e more) with
  | false => rw [hc] at h; simp at h
  | true =>
    simp only [Bool.and_eq_true, Bool.not_eq_true'] at hc
    obtain ⟨⟨c1, c2⟩, c3⟩ := hc
    have hno : r.before.testBit e.i = true → False := fun hb => by have := hbe e.i hb; rw [c1] at this; cases this
    rcases List.mem_cons.1 hq with rfl | hq
    · rcases hor with h1 | ⟨r', hr', h1⟩
      · exact h1.symm
      · have h2 := (hmem (e, st) (by simp)).2 r' hr'
        rw [h1, hr] at h2; cases h2
        exact (hno (sched_stage _ _ h0 (e, st) (by simp) r hr')).elim
    · have hlater := List.all_eq_true.1 c3 q hq
      have hq1 := (hmem q (by simp [hq])).1
      rcases hor with h1 | ⟨r', hr', h1⟩
      · rw [h1, hr] at hq1; cases hq1
        exact (hno hlater).elim
      · have h2 := (hmem q (by simp [hq])).2 r' hr'
        rw [h1, hr] at h2; cases h2
        have h3 := sched_stage _ _ h0 q (by simp [hq]) r hr'
        exact (hno ((F.closed i r q.1.i q.1 hr hq1 h3).2 e.i hlater)).elim
/-- **A region that draws its order.** -/
theorem draw_sound {ro : Option Nat} (hP : PH P E) (hC : CallSound I P callF) (F : RF ops rows) (h0 : EnvR ρ0 fr0.env a0) (hG : Glob P.globals.size ρ0) (hok : ∀ (i : Nat) (r : Row), rows[i]? = some r → operOk n P.globals.size r.o = true) (hnd : ro ≠ none → ∀ (i : Nat) (r : Row), rows[i]? = some r → notDefer r.o.op = true) {kN : KN} {kX : KX} :
    ∀ (more : Sched) (d : Nat) (sv : Nat → SV) (nb : Nat → Option Nat) (ps : List Pend) (fr : Fr) (s : St), (∀ q ∈ more, rows[q.1.i]? = some q.1 ∧ ∀ r ∈ q.2, rows[r.i]? = some r) → schedOk (2 ^ rows.length - 1) more d = true →
      evDraw E P callF ops more fr s ps kN (fun x fr' s => kX x ⟨wipe fr0.env rows, fr'.ds⟩ s) = true → pendOk E P s ps = true →
      ∀ (fuel : Nat) (ρ : Rho) (L : Array Bool) (a : Act) (w : World), Inv noPI P ops rows ρ0 s0 w0 N n fr0 a0 d sv nb ps fr s ρ L a w → todo ops.size L ≤ fuel → wpAnyIn (Wd ro) 0 P .any ops (QC ρ0 s0 w0 N n kN kX) fuel L a w := by
  intro more
  induction more with
  | nil =>
    intro d sv nb ps fr s hmem hsch hev hps fuel
    have fin : ∀ (ρ : Rho) (L : Array Bool) (a : Act) (w : World), Inv noPI P ops rows ρ0 s0 w0 N n fr0 a0 d sv nb ps fr s ρ L a w → Region.ready .any ops L = [] → QC ρ0 s0 w0 N n kN kX .normal a w := fun ρ L a w I hr =>
      ⟨ρ, fr, s, final_env F I h0 (all_listed F I.lsz hr), I.rel, I.ext, I.below, hev⟩
    induction fuel with
    | zero =>
      intro ρ L a w I htodo
      have hr : Region.ready .any ops L = [] := by
        rw [List.eq_nil_iff_forall_not_mem]
        intro i hi
        obtain ⟨r, hr, ho, hLi, hlt, _⟩ := ready_before F I hi
        have := todo_set (m := ops.size) (by rw [← I.lsz]; exact hlt) hlt hLi
        omega
      exact ⟨hr, fin ρ L a w I hr⟩
    | succ fuel ih =>
      intro ρ L a w I htodo
      refine ⟨fin ρ L a w I, fun i hi => ?_⟩
      obtain ⟨r, hr, ho, hLi, hlt, hbe⟩ := ready_before F I hi
      have hlt' := todo_set (m := ops.size) (by rw [← I.lsz]; exact hlt) hlt hLi
      cases hdi : d.testBit i with
      | true => exact pending_step hP F I h0 hG hok hnd hps hi hdi (fun _ _ _ _ _ _ _ _ _ _ h => h.elim) fun ρ' a' w' I' _ => ih ρ' _ a' w' I' (by omega)
      | false =>
        exfalso
        simp only [schedOk] at hsch
        have := Nat.eq_of_beq_eq_true hsch
        subst this
        rw [Nat.testBit_two_pow_sub_one, decide_eq_false_iff_not] at hdi
        exact hdi (List.getElem?_eq_some_iff.1 hr).1
  | cons hd more ihm =>
    obtain ⟨e, st⟩ := hd
    intro d sv nb ps fr s hmem hsch hev hps fuel
    have hsch0 := hsch
    obtain ⟨he, hst⟩ := hmem (e, st) (by simp)
    simp only [schedOk] at hsch
    cases hc : (!(d.testBit e.i) && Nat.beq (e.before ||| d) d && laterOk e more) with
    | false => rw [hc] at hsch; simp at hsch
    | true =>
      rw [hc, cond_true] at hsch
      simp only [Bool.and_eq_true, Bool.not_eq_true'] at hc
      obtain ⟨⟨c1, c2⟩, c3⟩ := hc
      split at hsch
      · rename_i d' hstage
        induction fuel with
        | zero =>
          intro ρ L a w I htodo
          exfalso
          have hlt : e.i < ops.size := by rw [← F.len]; exact (List.getElem?_eq_some_iff.1 he).1
          have hLf : L.getD e.i false = false := by
            cases hb : L.getD e.i false with
            | false => rfl
            | true => have := I.LX e.i hb; rw [c1] at this; cases this
          have := todo_set (m := ops.size) hlt (by rw [I.lsz]; exact hlt) hLf
          omega
        | succ fuel ih =>
          intro ρ L a w I htodo
          refine ⟨fun hr => ?_, fun i hi => ?_⟩
          · exfalso
            have hlt : e.i < ops.size := by rw [← F.len]; exact (List.getElem?_eq_some_iff.1 he).1
            have := I.LX e.i (all_listed F I.lsz hr e.i hlt)
            rw [c1] at this; cases this
          · obtain ⟨r, hr, ho, hLi, hlt, hbe⟩ := ready_before F I hi
            have hlt' := todo_set (m := ops.size) (by rw [← I.lsz]; exact hlt) hlt hLi
            cases hdi : d.testBit i with
            | true => exact pending_step hP F I h0 hG hok hnd hps hi hdi (fun _ _ _ _ _ _ _ _ _ _ h => h.elim) fun ρ' a' w' I' _ => ih ρ' _ a' w' I' (by omega)
            | false =>
              have hie := ready_next F hmem hsch0 hr hdi (fun j hj => I.LX j (hbe j hj))
              subst hie
              rw [he] at hr; cases hr
              have hbd : ∀ j, e.before.testBit j = true → d.testBit j = true := fun j hj => I.LX j (hbe j hj)
              have hop := hok e.i e he
              unfold operOk at hop
              rw [Bool.and_eq_true] at hop
              have hσ := opEnv_now F I he hdi hbd
              have hreal := real_of I h0 he hLi hbe hσ
              have hG' := hG.mono I.ext.le
              have hopd := opd_of hG' hop.2 hreal
              -- what follows an act
              have go : ∀ (ρ' : Rho) (s' : St) (w' : World) (x : SV) (v : Value) (fr' : Fr) (a' : Act), VR ρ' x v → Rel ρ' N s' w' → Ext ρ s ρ' s' → Below N w w' → fr'.env = putD fr.env e.o.dst x → a'.tmps = (a.put e.o.dst v).tmps → DfR ρ' fr'.ds a'.defers →
                  evStage E P ops st fr' s' (stillPend e.before ps) (fun fr s ps => evDraw E P callF ops more fr s ps kN (fun x fr' s => kX x ⟨wipe fr0.env rows, fr'.ds⟩ s)) = true →
                  wpAnyIn (Wd ro) 0 P .any ops (QC ρ0 s0 w0 N n kN kX) fuel (L.setIfInBounds e.i true) a' w' := by
                intro ρ' s' w' x v fr' a' q1 q2 q3 q4 q5 q6 q7 q8
                have I' := inv_act F I he hdi hlt hbe hop.1 q1 q2 q3 q4 (fun _ _ _ h => h) q5 q6 q7
                obtain ⟨sv', nb', ps', fr1, s1, I1, hp1, hk1⟩ := stage_sound (fun _ _ _ _ _ h => h) F (2 ^ e.i) _ st _ _ _ _ _ _ d' hst hstage q8 I'
                exact ihm d' sv' nb' ps' fr1 s1 (fun q hq => hmem q (by simp [hq])) hsch hk1 hp1 fuel ρ' _ a' w' I1 (by omega)
              simp only [evDraw] at hev
              unfold wpOpIn
              simp only [ho]
              split at hev
              · rename_i hw
                rw [wanted_sound hw hreal]
                simp only [if_true]
                cases hnf : noFork (exec E e.o.op P fr.env s) with
                | false => simp only [hnf] at hev; simp [failB] at hev
                | true =>
                  simp only [hnf, cond_true] at hev
                  have hs := exec_sound hP.eok I.rel e.o hopd
                  refine ⟨fun _ _ => trivial, ?_⟩
                  rw [semAt_eq (fun h => hnd h e.i e he)]
                  refine outR_sound hC I.rel hG' hs hev ?_ ?_ ?_
                  · intro ρ' s' w' x v q1 q2 q3 q4 q5
                    exact go ρ' s' w' x v (fr.put e.o.dst x) _ q1 q2 q3 q4 rfl rfl (by rw [put_defers']; exact I.dfr.mono q3.le) q5
                  · intro ρ' s' w' x v q1 q2 q3 q4 q5
                    refine ⟨ρ', ⟨wipe fr0.env rows, fr.ds⟩, s', x, v, rfl, q1, ⟨(env_wiped I h0).mono q3.le, I.size, I.dfr.mono q3.le⟩, q2, I.ext.trans q3, I.below.trans q4, q5⟩
                  · intro f args a' c' q1 q2
                    refine go ρ s w (.tup []) undef (Fr.put ⟨fr.env, Df.fn f args :: fr.ds⟩ e.o.dst (.tup [])) _ vrUndef I.rel (Ext.refl ρ s) (Below.refl N w) rfl ?_ ?_ q2
                    · cases e.o.dst <;> rfl
                    · rw [put_defers']
                      exact ⟨a', c', a.defers, q1, rfl, I.dfr⟩
              · rename_i hw
                rw [wanted_sound hw hreal]
                simp only [Bool.false_eq_true, if_false]
                exact ⟨fun _ _ => trivial, go ρ s w (.tup []) undef (fr.put e.o.dst (.tup [])) _ vrUndef I.rel (Ext.refl ρ s) (Below.refl N w) rfl rfl (by rw [put_defers']; exact I.dfr) hev⟩
              · simp [failB] at hev
      · cases hsch
end Go.Sh
namespace Go.Sh
variable [Opq]
open Go.RowKit (Below)
variable {I : Rho → World → Prop}
variable {P : Program} {E : EE} {callF : CallF}

theorem Hp.get_set_there : ∀ (t : Hp) (k : Nat) (x : SBlk), isNone (t.get k) = false → (t.set k x).get k = x := by
  intro t
  induction t with
  | e => intro k x h; rw [Hp.get_e] at h; cases h
  | n l v r ihl ihr =>
    intro k x h
    rw [Hp.set_n]
    rw [Hp.get_n] at h
    cases hk : Nat.beq k 0 <;> cases hk2 : Nat.beq (Nat.mod k 2) 1 <;> simp only [cond_true, cond_false, Hp.get_n, hk, hk2] at h ⊢
    · exact ihr _ _ h
    · exact ihl _ _ h
/-! ## blocks under another reading -/
theorem Rel.reblk {ρ : Rho} {N : Bound I} {s : St} {w : World} (H : Rel ρ N s w) {b : Nat} {blk : SBlk} (hB : ∀ q base e, ρ b = some (q, base, e) → BR ρ base e blk w.heap[q]?) (hw : writable blk = true → writable (s.h.get b) = true) (hn : isNone blk = false → isNone (s.h.get b) = false) :
    Rel ρ N (s.withH (s.h.set b blk)) w := by
  have get : ∀ b', ((s.withH (s.h.set b blk)).h.get b' = s.h.get b' ∧ b' ≠ b) ∨ (b' = b ∧ ((s.withH (s.h.set b blk)).h.get b' = blk ∨ (s.withH (s.h.set b blk)).h.get b' = .none)) := fun b' => by
    by_cases e : b' = b
    · subst e; exact .inr ⟨rfl, Hp.get_set_eq s.h b' blk⟩
    · exact .inl ⟨Hp.get_set_ne _ _ _ _ e, e⟩
  have gw : ∀ b', writable ((s.withH (s.h.set b blk)).h.get b') = true → writable (s.h.get b') = true := fun b' h => by
    rcases get b' with ⟨h1, _⟩ | ⟨rfl, h1 | h1⟩
    · rw [h1] at h; exact h
    · rw [h1] at h; exact hw h
    · rw [h1] at h; simp [writable] at h
  have gn : ∀ b', isNone ((s.withH (s.h.set b blk)).h.get b') = false → isNone (s.h.get b') = false := fun b' h => by
    rcases get b' with ⟨h1, _⟩ | ⟨rfl, h1 | h1⟩
    · rw [h1] at h; exact h
    · rw [h1] at h; exact hn h
    · rw [h1] at h; simp [isNone] at h
  refine ⟨H.fresh, fun b' q base e hb => ?_, H.bound, fun b' q base e hb h => H.low _ _ _ _ hb (gw b' h), fun b1 b2 q x1 y1 x2 y2 h1 h2 n1 n2 => H.inj _ _ _ _ _ _ _ h1 h2 (gw b1 n1) (gn b2 n2), H.size, H.inv⟩
  rcases get b' with ⟨h1, _⟩ | ⟨rfl, h1 | h1⟩
  · rw [h1]; exact H.live _ _ _ _ hb
  · rw [h1]; exact hB _ _ _ hb
  · rw [h1]; simp [BR]
theorem Ext.reblk {ρ0 ρ : Rho} {s0 s : St} (h : Ext ρ0 s0 ρ s) {b : Nat} (hb : s0.nx ≤ b) (blk : SBlk) : Ext ρ0 s0 ρ (s.withH (s.h.set b blk)) where
  le := h.le
  keep b' hb' hn := by
    obtain ⟨h1, h2⟩ := h.keep b' hb' hn
    exact ⟨h1, (Hp.get_set_ne _ _ _ _ (by omega)).trans h2⟩
  nx := h.nx
  lo := h.lo
  same b' hb' hl := (Hp.get_set_ne _ _ _ _ (by omega)).trans (h.same b' hb' hl)
/-- the world's block is another one, and the shadow says of it what it said -/
theorem Rel.poke {ρ : Rho} {N : Bound I} {s : St} {w : World} (H : Rel ρ N s w) {b r base e : Nat} (hb : ρ b = some (r, base, e)) (hw : writable (s.h.get b) = true) {o : Obj} (hB : BR ρ base e (s.h.get b) (some o)) : Rel ρ N s (putB w r o) where
  fresh := H.fresh
  live b' r' base' e' hb' := by
    have hbnd := H.bound _ _ _ _ hb
    rw [putB_get _ _ _ hbnd]
    by_cases hrr : r' = r
    · subst hrr
      rw [if_pos rfl]
      by_cases hbb : b' = b
      · subst hbb
        rw [hb] at hb'; cases hb'
        exact hB
      · cases hnn : isNone (s.h.get b') with
        | true => cases hg : s.h.get b' <;> rw [hg] at hnn <;> simp [isNone] at hnn; simp [BR]
        | false => exact absurd (H.inj _ _ _ _ _ _ _ hb hb' hw hnn).symm hbb
    · rw [if_neg hrr]; exact H.live _ _ _ _ hb'
  bound b' r' base' e' hb' := by have := H.bound _ _ _ _ hb'; simpa [putB] using this
  low := H.low
  inj := H.inj
  size := by simpa [putB] using H.size
  inv := N.stable _ _ _ _ H.inv (Rho.le_refl ρ) (Below.putB (H.low _ _ _ _ hb hw))

/-! ## a call that writes nothing older -/
theorem Hp.map_get (f : SBlk → SBlk) (hf : f .none = .none) : ∀ (t : Hp) (b : Nat), (t.map f).get b = f (t.get b)
  | .e, b => by rw [Hp.map, Hp.get_e, hf]
  | .n l v r, b => by
    have hl := Hp.map_get f hf l
    have hr := Hp.map_get f hf r
    have key : ∀ (l' : Hp) (v' : SBlk) (r' : Hp), (Hp.n l' v' r').get b = Bool.rec (motive := fun _ => SBlk) (Bool.rec (motive := fun _ => SBlk) (r'.get (Nat.pred (Nat.div b 2))) (l'.get (Nat.div b 2)) (Nat.beq (Nat.mod b 2) 1)) v' (Nat.beq b 0) := fun _ _ _ => rfl
    rw [Hp.map, key, key]
    cases Nat.beq b 0 with
    | true => rfl
    | false =>
      cases Nat.beq (Nat.mod b 2) 1 with
      | true => exact hl _
      | false => exact hr _
theorem roB_live {ρ : Rho} {base e : Nat} {blk : SBlk} {o : Option Obj} (h : BR ρ base e blk o) : BR ρ base e (roB blk) o := by
  cases blk with
  | cells ty cs => obtain ⟨rc, h1, _, _, _, h4⟩ := h; exact ⟨rc, _, _, h1, h4⟩
  | opn ty cs ub fz st => obtain ⟨rc, fz', h1, _, _, _, h4, _⟩ := h; exact ⟨rc, _, _, h1, h4⟩
  | ro ty cs => exact h
  | mapx es => exact h
  | _ => simp only [roB, BR]
theorem roB_ro (blk : SBlk) : writable (roB blk) = false := by cases blk <;> rfl
theorem roAll_get (s : St) (b : Nat) : (roAll s).h.get b = roB (s.h.get b) := Hp.map_get roB rfl s.h b
def tightN (N : Bound I) (w : World) (h : N.n ≤ w.heap.size) : Bound I := ⟨w.heap.size, fun ρ ρ' a b h1 h2 h3 => N.stable ρ ρ' a b h1 h2 (h3.mono h)⟩
theorem Rel.toRo {ρ : Rho} {N : Bound I} {s : St} {w : World} (H : Rel ρ N s w) : Rel ρ (tightN N w H.size) (roAll s) w where
  fresh := H.fresh
  live b r base e hb := by rw [roAll_get]; exact roB_live (H.live _ _ _ _ hb)
  bound := H.bound
  low _ _ _ _ _ hw := by rw [roAll_get, roB_ro] at hw; cases hw
  inj _ _ _ _ _ _ _ _ _ n1 _ := by rw [roAll_get, roB_ro] at n1; cases n1
  size := Nat.le_refl _
  inv := H.inv
theorem keepB_or (b : SBlk) : keepB b = .none ∨ (keepB b = b ∧ writable b = true) := by cases b <;> first | exact .inl rfl | exact .inr ⟨rfl, rfl⟩
theorem addNew_get (h' : Hp) (a : Nat) : ∀ (k : Nat) (h : Hp) (b : Nat), ((addNew h' a k h).get b = h.get b ∧ (b < a ∨ a + k ≤ b)) ∨ (a ≤ b ∧ b < a + k ∧ ((addNew h' a k h).get b = keepB (h'.get b) ∨ (addNew h' a k h).get b = .none))
  | 0, h, b => .inl ⟨rfl, by omega⟩
  | k + 1, h, b => by
    simp only [addNew]
    have hk : Nat.add a k = a + k := rfl
    rw [hk]
    rcases addNew_get h' a k (h.set (a + k) (keepB (h'.get (a + k)))) b with ⟨h1, h2⟩ | ⟨h1, h2, h3⟩
    · by_cases e : b = a + k
      · subst e
        right
        refine ⟨by omega, by omega, ?_⟩
        rw [h1]
        exact Hp.get_set_eq _ _ _
      · left
        exact ⟨h1.trans (Hp.get_set_ne _ _ _ _ e), by omega⟩
    · exact .inr ⟨h1, by omega, h3⟩
theorem merge_old {s s' : St} {b : Nat} (h : b < s.nx) : (mergeNew s s').h.get b = s.h.get b := by
  rcases addNew_get s'.h s.nx (Nat.sub s'.nx s.nx) s.h b with ⟨h1, _⟩ | ⟨h1, _, _⟩
  · exact h1
  · omega
theorem merge_new {s s' : St} {b : Nat} (h : s.nx ≤ b) (h' : b < s'.nx) : (mergeNew s s').h.get b = .none ∨ ((mergeNew s s').h.get b = s'.h.get b ∧ writable (s'.h.get b) = true) := by
  rcases addNew_get s'.h s.nx (Nat.sub s'.nx s.nx) s.h b with ⟨_, h2⟩ | ⟨_, _, h3⟩
  · have : Nat.sub s'.nx s.nx = s'.nx - s.nx := rfl
    omega
  · rcases h3 with h3 | h3
    · rcases keepB_or (s'.h.get b) with h4 | ⟨h4, h5⟩
      · exact .inl (h3.trans h4)
      · exact .inr ⟨h3.trans h4, h5⟩
    · exact .inl h3
theorem Rel.merge {ρ ρ' : Rho} {N : Bound I} {s s' : St} {w w' : World} (H : Rel ρ N s w) (H' : Rel ρ' (tightN N w H.size) s' w') (hE : Ext ρ (roAll s) ρ' s') (hB : Below w.heap.size w w') : Rel ρ' N (mergeNew s s') w' := by
  have hold : ∀ b x, b < s.nx → ρ' b = some x → ρ b = some x := fun b x hb hx => by
    cases hr : ρ b with
    | none => have := (hE.keep b hb hr).1; rw [this] at hx; cases hx
    | some y => have := hE.le b y hr; rw [this] at hx; exact hx
  have hlt' : ∀ b x, ρ' b = some x → b < s'.nx := fun b x hx => by
    rcases Nat.lt_or_ge b s'.nx with h | h
    · exact h
    · rw [H'.fresh b h] at hx; cases hx
  have split : ∀ b x, ρ' b = some x → (b < s.nx ∧ ρ b = some x ∧ (mergeNew s s').h.get b = s.h.get b) ∨ (s.nx ≤ b ∧ ((mergeNew s s').h.get b = .none ∨ ((mergeNew s s').h.get b = s'.h.get b ∧ writable (s'.h.get b) = true))) := fun b x hx => by
    rcases Nat.lt_or_ge b s.nx with h | h
    · exact .inl ⟨h, hold b x h hx, merge_old h⟩
    · exact .inr ⟨h, merge_new h (hlt' b x hx)⟩
  have hN : (tightN N w H.size).n = w.heap.size := rfl
  refine ⟨fun b hb => H'.fresh b hb, ?_, H'.bound, ?_, ?_, Nat.le_trans H.size hB.size, N.stable _ _ _ _ H.inv hE.le (hB.mono H.size)⟩
  · intro b r base e hb
    rcases split b _ hb with ⟨h1, h2, h3⟩ | ⟨h1, h3 | ⟨h3, _⟩⟩
    · rw [h3, hB.block r (H.bound _ _ _ _ h2)]; exact (H.live _ _ _ _ h2).mono hE.le
    · rw [h3]; simp [BR]
    · rw [h3]; exact H'.live _ _ _ _ hb
  · intro b r base e hb hw
    rcases split b _ hb with ⟨h1, h2, h3⟩ | ⟨h1, h3 | ⟨h3, h4⟩⟩
    · rw [h3] at hw; exact H.low _ _ _ _ h2 hw
    · rw [h3] at hw; simp [writable] at hw
    · have := H'.low _ _ _ _ hb h4
      rw [hN] at this
      have := H.size
      omega
  · intro b1 b2 r x1 y1 x2 y2 h1 h2 n1 n2
    rcases split b1 _ h1 with ⟨_, p2, p3⟩ | ⟨_, p3 | ⟨p3, p4⟩⟩ <;> rcases split b2 _ h2 with ⟨_, q2, q3⟩ | ⟨_, q3 | ⟨q3, q4⟩⟩
    · rw [p3] at n1; rw [q3] at n2; exact H.inj _ _ _ _ _ _ _ p2 q2 n1 n2
    · rw [q3] at n2; simp [isNone] at n2
    · have k1 := H'.low _ _ _ _ h2 q4
      rw [hN] at k1
      have k2 := H.bound _ _ _ _ p2
      omega
    · rw [p3] at n1; simp [writable] at n1
    · rw [p3] at n1; simp [writable] at n1
    · rw [p3] at n1; simp [writable] at n1
    · have k1 := H'.low _ _ _ _ h1 p4
      rw [hN] at k1
      have k2 := H.bound _ _ _ _ q2
      omega
    · rw [q3] at n2; simp [isNone] at n2
    · exact H'.inj _ _ _ _ _ _ _ h1 h2 p4 (isNone_of_writable q4)
theorem Ext.merge {ρ ρ' : Rho} {s s' : St} (hE : Ext ρ (roAll s) ρ' s') : Ext ρ s ρ' (mergeNew s s') where
  le := hE.le
  keep b hb hn := ⟨(hE.keep b hb hn).1, merge_old hb⟩
  nx := hE.nx
  lo := Nat.le_refl _
  same _ hb _ := merge_old hb
end Go.Sh
namespace Go.Sh
variable [Opq]
open Go.RowKit (Below)
variable {I : Rho → World → Prop}
variable {P : Program} {E : EE} {callF : CallF}
variable {ops : Array Oper} {rows : List Row} {ρ0 : Rho} {s0 : St} {w0 : World} {N : Bound I} {n : Nat} {fr0 : Fr} {a0 : Act}

/-! ## maps that are being filled -/
/-- a filling that the shadow has done -/
def QI (P : Program) (ms : List Nat) : St → Nat → Oper → En → Prop := fun s i o σ => ∃ (t : TypeId) (tm : Tmp) (k v : Operand) (kt et : TypeId) (b l m : Nat) (es : List (Nat × Nat × Nat × SV)),
  o.op = .insert t (.tmp tm) k v ∧ P.underlying t = some (.map kt et) ∧ P.underlying kt = some .string ∧ σ.get tm = .mp b ∧ evO k σ = .str l m ∧ evO v σ ≠ .bad ∧ b ∈ ms ∧ s.h.get b = .mapp es ∧ (i, l, m, evO v σ) ∈ es
/-- the map of which a name speaks: what of it is in is what the run has done -/
def MB (rows : List Row) (s0 : St) (nb : Nat → Option Nat) (d : Nat) (s : St) (ρ : Rho) (L : Array Bool) (w : World) (b : Nat) : Prop :=
  s0.nx ≤ b ∧ b < s.nx ∧ ∃ es, s.h.get b = .mapp es ∧ es ≠ [] ∧ (es.map (·.1)).Nodup ∧ (es.map fun x => (x.2.1, x.2.2.1)).Nodup ∧
    (∃ j, nb j = some b ∧ ∃ tm, (∃ q t, rows[j]? = some q ∧ q.o.op = .makeMap t none ∧ q.o.dst = some tm) ∧ ∀ x ∈ es, ∃ r, rows[x.1]? = some r ∧ (kindOp r.o.op = 3 ∧ r.o.guard = none ∧ ∃ t k v, r.o.op = .insert t (.tmp tm) k v) ∧ r.before.testBit j = true ∧ d.testBit x.1 = true) ∧
    ∀ q base e, ρ b = some (q, base, e) → ∃ (es' : Array MapEntry) (clock : Nat) (l : List (SV × SV × Nat)), w.heap[q]? = some (.map es' clock) ∧ ER ρ l es'.toList ∧
      (l.map fun y => (y.1, y.2.1)).Perm ((es.filter fun x => L.getD x.1 false).map fun x => (SV.str x.2.1 x.2.2.1, x.2.2.2))
structure InvQ (P : Program) (ops : Array Oper) (rows : List Row) (ρ0 : Rho) (s0 : St) (w0 : World) (N : Bound I) (n : Nat) (fr0 : Fr) (a0 : Act) (d : Nat) (sv : Nat → SV) (nb : Nat → Option Nat) (ps : List Pend) (ms : List Nat) (fr : Fr) (s : St) (ρ : Rho) (L : Array Bool) (a : Act) (w : World) : Prop where
  inv : Inv (QI P ms) P ops rows ρ0 s0 w0 N n fr0 a0 d sv nb ps fr s ρ L a w
  mnd : ms.Nodup
  mq : ∀ b ∈ ms, MB rows s0 nb d s ρ L w b
  kq : ∀ (j : Nat) (q : Row), rows[j]? = some q → isMk q.o.op = true → d.testBit j = true → ∀ b, sv j = .mp b → nb j = some b

theorem Inv.monoPI {PI PI' : St → Nat → Oper → En → Prop} {d : Nat} {sv : Nat → SV} {nb : Nat → Option Nat} {ps : List Pend} {fr : Fr} {s : St} {ρ : Rho} {L : Array Bool} {a : Act} {w : World} (J : Inv PI P ops rows ρ0 s0 w0 N n fr0 a0 d sv nb ps fr s ρ L a w) (h : ∀ i r σ, rows[i]? = some r → L.getD i false = false → kindOp r.o.op = 3 → PI s i r.o σ → PI' s i r.o σ) : Inv PI' P ops rows ρ0 s0 w0 N n fr0 a0 d sv nb ps fr s ρ L a w :=
  { J with pend := fun i r hr hd hL => (by
      obtain ⟨σ, h1, h2⟩ := J.pend i r hr hd hL
      refine ⟨σ, h1, ?_⟩
      rcases h2 with h2 | h2 | h2 | ⟨g1, g2, g3, g4⟩
      · exact .inl h2
      · exact .inr (.inl h2)
      · exact .inr (.inr (.inl h2))
      · exact .inr (.inr (.inr ⟨g1, g2, g3, h i r σ hr hL g2 g4⟩))) }
theorem isMk_op {op : Op} (h : isMk op = true) : ∃ t, op = .makeMap t none := by
  cases op <;> simp [isMk] at h
  rename_i t r
  cases r with
  | none => exact ⟨t, rfl⟩
  | some _ => simp at h
theorem isMk_kind {op : Op} (h : isMk op = true) : kindOp op = 1 := by
  obtain ⟨t, rfl⟩ := isMk_op h; rfl
theorem memN_iff {b : Nat} {l : List Nat} : memN b l = true ↔ b ∈ l := by
  unfold memN
  rw [List.any_eq_true]
  exact ⟨fun ⟨x, hx, h⟩ => by rw [Nat.eq_of_beq_eq_true h]; exact hx, fun h => ⟨b, h, Nat.beq_refl b⟩⟩
theorem memN_false {b : Nat} {l : List Nat} (h : memN b l = false) : b ∉ l := fun hm => by rw [memN_iff.2 hm] at h; cases h
theorem strT_some {t : TypeId} (h : strT P t = true) : ∃ kt et, P.underlying t = some (.map kt et) ∧ P.underlying kt = some .string := by
  unfold strT at h
  split at h
  · rename_i kt et hu
    split at h
    · rename_i hk; exact ⟨kt, et, hu, hk⟩
    · cases h
  · cases h
theorem notKey_not {l m : Nat} {es : List (Nat × Nat × Nat × SV)} (h : notKey l m es = true) : (l, m) ∉ es.map fun x => (x.2.1, x.2.2.1) := fun hm => by
  obtain ⟨x, hx, he⟩ := List.mem_map.1 hm
  have := List.all_eq_true.1 h x hx
  rw [Prod.mk.injEq] at he
  rw [he.1, he.2, eqStr_iff.2 ⟨rfl, rfl⟩] at this
  cases this
theorem filter_none {es : List (Nat × Nat × Nat × SV)} {L : Array Bool} (h : ∀ x ∈ es, L.getD x.1 false = false) : es.filter (fun x => L.getD x.1 false) = [] := by
  rw [List.filter_eq_nil_iff]
  intro x hx
  rw [h x hx]
  simp

variable {d : Nat} {sv : Nat → SV} {nb : Nat → Option Nat} {ps : List Pend} {ms : List Nat} {fr : Fr} {s : St} {ρ : Rho} {L : Array Bool} {a : Act} {w : World}
/-- what changes about a map that is being filled when the shadow goes on elsewhere -/
theorem MB.keep {nb' : Nat → Option Nat} {d' : Nat} {s' : St} {b : Nat} (h : MB rows s0 nb d s ρ L w b) (hnb : ∀ j, nb j = some b → nb' j = some b) (hd : ∀ i, d.testBit i = true → d'.testBit i = true) (hnx : s.nx ≤ s'.nx) (hg : s'.h.get b = s.h.get b) : MB rows s0 nb' d' s' ρ L w b := by
  obtain ⟨h1, h2, es, h3, h4, h5, h6, ⟨j, h7, tm, h8, h9⟩, h10⟩ := h
  exact ⟨h1, Nat.lt_of_lt_of_le h2 hnx, es, hg.trans h3, h4, h5, h6, ⟨j, hnb j h7, tm, h8, fun x hx => let ⟨r, q1, q2, q3, q4⟩ := h9 x hx; ⟨r, q1, q2, q3, hd _ q4⟩⟩, h10⟩
/-- the shadow fills a map -/
theorem inv_ins (F : RF ops rows) (J : InvQ P ops rows ρ0 s0 w0 N n fr0 a0 d sv nb ps ms fr s ρ L a w) {i : Nat} {r : Row} (hr : rows[i]? = some r) (hri : r.i = i) (hdi : d.testBit i = false) (hbd : ∀ j, r.before.testBit j = true → d.testBit j = true)
    (hw : wantedS r.o.guard ops fr.env = some true) (hk : kindOp r.o.op = 3) {s' : St} {ms' : List Nat} (hp : planIns P rows s0.nx r fr.env s ms = some (s', ms')) :
    InvQ P ops rows ρ0 s0 w0 N n fr0 a0 (d ||| 2 ^ i) (upd sv i (.tup [])) (upd nb i none) ps ms' (fr.put r.o.dst (.tup [])) s' ρ L a w := by
  unfold planIns at hp
  split at hp
  · rename_i t tm k v hop
    cases hc : (strT P t && madeBefore rows tm r.before && !(isBad (evO v fr.env)) && r.o.guard.isNone) with
    | false => rw [hc] at hp; cases hp
    | true =>
      rw [hc, cond_true] at hp
      simp only [Bool.and_eq_true, Bool.not_eq_true'] at hc
      obtain ⟨⟨⟨hst, hmb⟩, hvb⟩, hgn⟩ := hc
      have hgd : r.o.guard = none := by simpa using hgn
      obtain ⟨kt, et, hu, hkt⟩ := strT_some hst
      split at hp
      · rename_i b l m hm hkey
        -- the row that makes the map
        unfold madeBefore at hmb
        obtain ⟨q, hq, hqq⟩ := List.any_eq_true.1 hmb
        simp only [Bool.and_eq_true] at hqq
        obtain ⟨⟨hmk, hdst⟩, hqb⟩ := hqq
        obtain ⟨j, hj⟩ := List.mem_iff_getElem?.1 hq
        have hqi := (F.at' j q hj).1
        rw [hqi] at hqb
        have hqd : q.o.dst = some tm := by
          unfold isTmp at hdst
          split at hdst
          · rename_i d' hd'; rw [hd', Nat.eq_of_beq_eq_true hdst]
          · cases hdst
        have hdj := hbd j hqb
        have hsvj : sv j = .mp b := by
          rcases J.inv.env tm (by rw [hm]; simp) with ⟨i', r', hr', hdi', hd', hv⟩ | ⟨hno, _⟩
          · by_cases e : i' = j
            · subst e; rw [← hv]; exact hm
            · exact absurd hd' (F.uniq i' r' j q tm hr' hj (fun h => e h.symm) hqd)
          · exact absurd hqd (hno j q hj hdj)
        have hnbj := J.kq j q hj hmk hdj b hsvj
        have hji : j ≠ i := fun e => by subst e; rw [hdj] at hdi; cases hdi
        have hLi : L.getD i false = false := by
          cases hb : L.getD i false with
          | false => rfl
          | true => have := J.inv.LX i hb; rw [hdi] at this; cases this
        obtain ⟨tq, hopq⟩ := isMk_op hmk
        have hni : nb i = none := by
          cases hh : nb i with
          | none => rfl
          | some b' => have := (J.inv.nblt i b' hh).2; rw [hdi] at this; cases this
        have hnbu : ∀ j' b', nb j' = some b' → upd nb i none j' = some b' := fun j' b' h => by
          rw [upd_ne]
          · exact h
          · intro e; subst e; rw [hni] at h; cases h
        have hvne := isBad_false hvb
        -- what holds of every list of entries with the new one ahead
        have build : ∀ (es : List (Nat × Nat × Nat × SV)) (ms1 : List Nat), s0.nx ≤ b → b < s.nx → writable (s.h.get b) = true → isNone (s.h.get b) = false → b ∈ ms1 → ms1.Nodup → (∀ x ∈ ms, x ∈ ms1) → (∀ x ∈ ms1, x ≠ b → x ∈ ms) →
            (∀ es0, s.h.get b = .mapp es0 → es = es0) →
            (es.map (·.1)).Nodup → (∀ x ∈ es, x.1 ≠ i) → (es.map fun x => (x.2.1, x.2.2.1)).Nodup → (l, m) ∉ (es.map fun x => (x.2.1, x.2.2.1)) →
            (∀ x ∈ es, ∃ r, rows[x.1]? = some r ∧ (kindOp r.o.op = 3 ∧ r.o.guard = none ∧ ∃ t k v, r.o.op = .insert t (.tmp tm) k v) ∧ r.before.testBit j = true ∧ d.testBit x.1 = true) →
            (∀ q base e, ρ b = some (q, base, e) → ∃ (es' : Array MapEntry) (clock : Nat) (l : List (SV × SV × Nat)), w.heap[q]? = some (.map es' clock) ∧ ER ρ l es'.toList ∧ (l.map fun y => (y.1, y.2.1)).Perm ((es.filter fun x => L.getD x.1 false).map fun x => (SV.str x.2.1 x.2.2.1, x.2.2.2))) →
            InvQ P ops rows ρ0 s0 w0 N n fr0 a0 (d ||| 2 ^ i) (upd sv i (.tup [])) (upd nb i none) ps ms1 (fr.put r.o.dst (.tup [])) (s.withH (s.h.set b (.mapp ((i, l, m, evO v fr.env) :: es)))) ρ L a w := by
          intro es ms1 hge hlt hwr hnn hbm hnd hsub hsub' hes hn1 hni1 hn2 hni2 hrow hreal
          have hgb : (s.withH (s.h.set b (.mapp ((i, l, m, evO v fr.env) :: es)))).h.get b = .mapp ((i, l, m, evO v fr.env) :: es) ∨ (s.withH (s.h.set b (.mapp ((i, l, m, evO v fr.env) :: es)))).h.get b = .none := Hp.get_set_eq _ _ _
          have hgb' : (s.withH (s.h.set b (.mapp ((i, l, m, evO v fr.env) :: es)))).h.get b = .mapp ((i, l, m, evO v fr.env) :: es) := by
            exact Hp.get_set_there _ _ _ hnn
          have hgn : ∀ b', b' ≠ b → (s.withH (s.h.set b (.mapp ((i, l, m, evO v fr.env) :: es)))).h.get b' = s.h.get b' := fun b' h => Hp.get_set_ne _ _ _ _ h
          have hQI : ∀ i' o σ, QI P ms1 s i' o σ → QI P ms1 (s.withH (s.h.set b (.mapp ((i, l, m, evO v fr.env) :: es)))) i' o σ := by
            rintro i' o σ ⟨t', tm', k', v', kt', et', b', l', m', es', g1, g2, g3, g4, g5, g6, g7, g8, g9⟩
            by_cases e : b' = b
            · subst e
              have := hes es' g8
              subst this
              exact ⟨t', tm', k', v', kt', et', b', l', m', _, g1, g2, g3, g4, g5, g6, g7, hgb', List.mem_cons_of_mem _ g9⟩
            · exact ⟨t', tm', k', v', kt', et', b', l', m', es', g1, g2, g3, g4, g5, g6, g7, (hgn b' e).trans g8, g9⟩
          have J1 : Inv (QI P ms1) P ops rows ρ0 s0 w0 N n fr0 a0 d sv nb ps fr s ρ L a w := J.inv.monoPI fun i' r' σ _ _ _ ⟨t', tm', k', v', kt', et', b', l', m', es', g1, g2, g3, g4, g5, g6, g7, g8⟩ => ⟨t', tm', k', v', kt', et', b', l', m', es', g1, g2, g3, g4, g5, g6, hsub _ g7, g8⟩
          have hop' := opEnv_now F J1 hr hdi hbd
          refine ⟨?_, hnd, ?_, ?_⟩
          · refine inv_plan F J1 hr hdi hbd (fun p hp => hp) (fun j' hj' => upd_ne _ _ hj') (fun b' hb' => ?_) (Nat.le_refl _) (fun b' hb' => ?_) hQI ?_ (Ext.reblk J.inv.ext hge _) ?_
            · rw [upd_self] at hb'; cases hb'
            · by_cases e : b' = b
              · subst e; rw [hgb']; exact .inr rfl
              · exact .inl (hgn b' e)
            · exact J.inv.rel.reblk (fun _ _ _ _ => by simp [BR]) (fun _ => hwr) (fun _ => hnn)
            · exact ⟨fr.env, hop'.upd' J1 hdi _ hr hbd, .inr (.inr (.inr ⟨hw, hk, upd_self _ _ _, t, tm, k, v, kt, et, b, l, m, _, hop, hu, hkt, hm, hkey, hvne, hbm, hgb', List.mem_cons_self⟩))⟩
          · intro b' hb'
            by_cases e : b' = b
            · subst e
              refine ⟨hge, hlt, _, hgb', by simp, ?_, ?_, ⟨j, hnbu j b' hnbj, tm, ⟨q, tq, hj, hopq, hqd⟩, ?_⟩, ?_⟩
              · simp only [List.map_cons, List.nodup_cons]
                refine ⟨fun hm' => ?_, hn1⟩
                obtain ⟨x, hx, he⟩ := List.mem_map.1 hm'
                exact hni1 x hx he
              · simp only [List.map_cons, List.nodup_cons]
                exact ⟨hni2, hn2⟩
              · intro x hx
                rcases List.mem_cons.1 hx with rfl | hx
                · exact ⟨r, hr, ⟨hk, hgd, t, k, v, hop⟩, hqb, (bit_or d i i).2 (.inr rfl)⟩
                · obtain ⟨r', q1, q2, q3, q4⟩ := hrow x hx
                  exact ⟨r', q1, q2, q3, (bit_or d i _).2 (.inl q4)⟩
              · intro q' base e hb
                obtain ⟨es', clock, l', g1, g2, g3⟩ := hreal q' base e hb
                refine ⟨es', clock, l', g1, g2, ?_⟩
                rw [List.filter_cons_of_neg (by simp only; rw [hLi]; simp)]
                exact g3
            · exact (J.mq b' (hsub' b' hb' e)).keep (fun j' h => hnbu j' b' h) (fun i' h => (bit_or d i i').2 (.inl h)) (Nat.le_refl _) (hgn b' e)
          · intro j' q' hq' hmk' hd' b' hb'
            have hne : j' ≠ i := fun e => by
              subst e; rw [hr] at hq'; cases hq'
              rw [isMk_kind hmk'] at hk; cases hk
            rw [upd_ne _ _ hne] at hb' ⊢
            rcases (bit_or d i j').1 hd' with h | h
            · exact J.kq j' q' hq' hmk' h b' hb'
            · exact absurd h hne
        split at hp
        · rename_i es clock hg
          cases hc : (es.isEmpty && Nat.ble s0.nx b && Nat.ble (Nat.succ b) s.nx && !(memN b ms)) with
          | false => rw [hc] at hp; cases hp
          | true =>
            rw [hc, cond_true] at hp
            cases hp
            simp only [Bool.and_eq_true, Bool.not_eq_true'] at hc
            obtain ⟨⟨⟨h1, h2⟩, h3⟩, h4⟩ := hc
            have hb4 := memN_false h4
            rw [hri]
            refine build [] (b :: ms) (Nat.le_of_ble_eq_true h2) (Nat.le_of_ble_eq_true h3) (by rw [hg]; rfl) (by rw [hg]; rfl) List.mem_cons_self (List.nodup_cons.2 ⟨hb4, J.mnd⟩) (fun x hx => List.mem_cons_of_mem _ hx) (fun x hx hne => by rcases List.mem_cons.1 hx with h | h; exact absurd h hne; exact h)
              (fun es0 h => by rw [hg] at h; cases h) List.nodup_nil (fun x hx => by cases hx) List.nodup_nil (by simp) (fun x hx => by cases hx) (fun q' base e hb => ?_)
            have hL := J.inv.rel.live _ _ _ _ hb
            rw [hg] at hL
            obtain ⟨es', ho, her⟩ := hL
            have hes : es = [] := by cases es with
              | nil => rfl
              | cons _ _ => simp at h1
            subst hes
            exact ⟨es', clock, [], ho, her, by simp⟩
        · rename_i es hg
          cases hc : (memN b ms && notKey l m es) with
          | false => rw [hc] at hp; cases hp
          | true =>
            rw [hc, cond_true] at hp
            cases hp
            rw [Bool.and_eq_true] at hc
            have hbm := memN_iff.1 hc.1
            obtain ⟨g1, g2, es0, g3, g4, g5, g6, ⟨j0, g7, tm0, ⟨q0, t0, g8, _, g80⟩, g9⟩, g10⟩ := J.mq b hbm
            rw [hg] at g3
            cases g3
            have hj0 : j0 = j := J.inv.nbne j0 j b g7 hnbj
            subst hj0
            rw [hj] at g8; cases g8
            rw [hqd] at g80; cases g80
            rw [hri]
            refine build es ms g1 g2 (by rw [hg]; rfl) (by rw [hg]; rfl) hbm J.mnd (fun x hx => hx) (fun x hx _ => hx) (fun es0 h => by rw [hg] at h; cases h; rfl) g5 (fun x hx e => ?_) g6 (notKey_not hc.2) g9 g10
            obtain ⟨_, _, _, _, q4⟩ := g9 x hx
            rw [e, hdi] at q4; cases q4
        · cases hp
      · cases hp
  · cases hp
end Go.Sh
namespace Go.Sh
variable [Opq]
open Go.RowKit (Below)
variable {I : Rho → World → Prop}
variable {P : Program} {E : EE} {callF : CallF}
variable {ops : Array Oper} {rows : List Row} {ρ0 : Rho} {s0 : St} {w0 : World} {N : Bound I} {n : Nat} {fr0 : Fr} {a0 : Act}
variable {d : Nat} {sv : Nat → SV} {nb : Nat → Option Nat} {ps : List Pend} {ms : List Nat} {fr : Fr} {s : St} {ρ : Rho} {L : Array Bool} {a : Act} {w : World}

theorem QI.keep {s' : St} (hq : ∀ b ∈ ms, s'.h.get b = s.h.get b) (i : Nat) (o : Oper) (σ : En) (h : QI P ms s i o σ) : QI P ms s' i o σ := by
  obtain ⟨t, tm, k, v, kt, et, b, l, m, es, g1, g2, g3, g4, g5, g6, g7, g8, g9⟩ := h
  exact ⟨t, tm, k, v, kt, et, b, l, m, es, g1, g2, g3, g4, g5, g6, g7, (hq b g7).trans g8, g9⟩
theorem nb_none (J : InvQ P ops rows ρ0 s0 w0 N n fr0 a0 d sv nb ps ms fr s ρ L a w) {i : Nat} (hdi : d.testBit i = false) : nb i = none := by
  cases hh : nb i with
  | none => rfl
  | some b' => have := (J.inv.nblt i b' hh).2; rw [hdi] at this; cases this
/-- all rows of a stage, done by the shadow, while maps are being filled -/
theorem stageQ_sound (F : RF ops rows) (prev : Nat) (k : KQ) : ∀ (st : List Row) (d : Nat) (sv : Nat → SV) (nb : Nat → Option Nat) (ps : List Pend) (ms : List Nat) (fr : Fr) (s : St) (dEnd : Nat),
    (∀ r ∈ st, rows[r.i]? = some r) → stageOk prev st d = some dEnd → evStageQ E P ops rows s0.nx st fr s ps ms k = true →
    InvQ P ops rows ρ0 s0 w0 N n fr0 a0 d sv nb ps ms fr s ρ L a w →
    ∃ sv' nb' ps' ms' fr' s', InvQ P ops rows ρ0 s0 w0 N n fr0 a0 dEnd sv' nb' ps' ms' fr' s' ρ L a w ∧ pendOk E P s' ps' = true ∧ k fr' s' ps' ms' = true
  | [], d, sv, nb, ps, ms, fr, s, dEnd, _, hst, hev, J => by
    simp only [stageOk] at hst
    cases hst
    simp only [evStageQ] at hev
    cases hp : pendOk E P s ps with
    | false => rw [hp] at hev; simp [failB] at hev
    | true =>
      rw [hp] at hev
      exact ⟨sv, nb, ps, ms, fr, s, J, hp, hev⟩
  | r :: rs, d, sv, nb, ps, ms, fr, s, dEnd, hmem, hst, hev, J => by
    simp only [stageOk] at hst
    cases hc : (!(isAct r) && !(d.testBit r.i) && Nat.beq (r.before ||| d) d && Nat.beq (prev ||| r.before) r.before) with
    | false => rw [hc] at hst; simp at hst
    | true =>
      rw [hc, cond_true] at hst
      simp only [Bool.and_eq_true, Bool.not_eq_true'] at hc
      obtain ⟨⟨⟨c1, c2⟩, c3⟩, c4⟩ := hc
      have hr := hmem r (by simp)
      obtain ⟨_, hro, hrk⟩ := F.at' r.i r hr
      have hbd : ∀ j, r.before.testBit j = true → d.testBit j = true := fun j hj => sub_of_or c3 j hj
      have hop := opEnv_now F J.inv hr c2 hbd
      have hopu := fun x => hop.upd' J.inv c2 x hr hbd
      have hmem' : ∀ q ∈ rs, rows[q.i]? = some q := fun q hq => hmem q (by simp [hq])
      have hni := nb_none J c2
      -- the rest of the invariant, when a row that fills nothing is done
      have rest : ∀ (x : SV) (nb' : Nat → Option Nat) (ps' : List Pend) (s' : St), (∀ j b, nb j = some b → nb' j = some b) → s.nx ≤ s'.nx → (∀ b, b < s.nx → s'.h.get b = s.h.get b) → (isMk r.o.op = true → ∀ b, x = .mp b → nb' r.i = some b) →
          Inv (QI P ms) P ops rows ρ0 s0 w0 N n fr0 a0 (d ||| 2 ^ r.i) (upd sv r.i x) nb' ps' (fr.put r.o.dst x) s' ρ L a w → InvQ P ops rows ρ0 s0 w0 N n fr0 a0 (d ||| 2 ^ r.i) (upd sv r.i x) nb' ps' ms (fr.put r.o.dst x) s' ρ L a w := by
        intro x nb' ps' s' h1 h2 h3 h4 J'
        refine ⟨J', J.mnd, fun b hb => (J.mq b hb).keep (fun j h => h1 j b h) (fun i h => (bit_or d r.i i).2 (.inl h)) h2 (h3 b (J.mq b hb).2.1), fun j q hq hmk hdj b hb => ?_⟩
        by_cases e : j = r.i
        · subst e
          rw [upd_self] at hb
          rw [hr] at hq; cases hq
          exact h4 hmk b hb
        · rw [upd_ne _ _ e] at hb
          rcases (bit_or d r.i j).1 hdj with h | h
          · exact h1 j b (J.kq j q hq hmk h b hb)
          · exact absurd h e
      have hnbu : ∀ y j b, nb j = some b → upd nb r.i y j = some b := fun y j b h => by
        rw [upd_ne]
        · exact h
        · intro e; subst e; rw [hni] at h; cases h
      simp only [evStageQ] at hev
      split at hev
      · rename_i hw
        cases hins : isIns r with
        | true =>
          rw [hins, cond_true] at hev
          have hk3 : kindOp r.o.op = 3 := by rw [← hrk]; exact Nat.eq_of_beq_eq_true hins
          split at hev
          · rename_i s' ms' hp
            exact stageQ_sound F prev k rs _ _ _ ps ms' _ s' dEnd hmem' hst hev (inv_ins F J hr rfl c2 hbd hw hk3 hp)
          · simp [failB] at hev
        | false =>
          rw [hins, cond_false] at hev
          split at hev
          · rename_i x s' hex
            cases hk1 : Nat.beq r.kind 1 with
            | true =>
              rw [hk1, cond_true] at hev
              have hkk : kindOp r.o.op = 1 := by rw [← hrk]; exact Nat.eq_of_beq_eq_true hk1
              have hnew := hex
              rw [kind1_exec E hkk] at hnew
              unfold newR at hnew
              split at hnew
              · rename_i mk blk hmk
                cases hnew
                refine stageQ_sound F prev k rs (d ||| 2 ^ r.i) (upd sv r.i (valOf mk s.nx)) (upd nb r.i (some s.nx)) ps ms (fr.put r.o.dst (valOf mk s.nx)) (s.new blk) dEnd hmem' hst hev ?_
                refine rest _ _ _ _ (hnbu _) (Nat.le_succ _) (fun b hb => Hp.get_set_ne _ _ _ _ (by omega)) (fun _ b hb => ?_) ?_
                · rw [upd_self]
                  cases mk <;> simp only [valOf] at hb <;> cases hb
                  rfl
                · refine inv_plan F J.inv hr c2 hbd (fun p hp => hp) (fun j hj => upd_ne _ _ hj) (fun b hb => ?_) (Nat.le_succ _) (fun b hb => .inl (Hp.get_set_ne _ _ _ _ (by omega))) (QI.keep fun b hb => Hp.get_set_ne _ _ _ _ (by have := (J.mq b hb).2.1; omega)) (J.inv.rel.prep blk) (J.inv.ext.trans (Ext.prep J.inv.rel blk)) ?_
                  · rw [upd_self] at hb; cases hb; exact ⟨rfl, Nat.lt_succ_self _⟩
                  · refine ⟨fr.env, hopu _, .inr (.inr (.inl ⟨hw, hkk, mk, blk, s.nx, hmk, upd_self _ _ _, upd_self _ _ _, J.inv.rel.fresh _ (Nat.le_refl _), J.inv.ext.nx, ?_⟩))⟩
                    exact (Hp.get_set_eq s.h s.nx blk).imp id fun h => by rw [show (s.new blk).h.get s.nx = .none from h]; rfl
              · cases hnew
            | false =>
              rw [hk1, cond_false] at hev
              cases hnx : Nat.beq s'.nx s.nx with
              | false => rw [hnx] at hev; simp [failB] at hev
              | true =>
                rw [hnx, cond_true] at hev
                have hkk : kindOp r.o.op = 0 := by
                  have hle : kindOp r.o.op = 0 ∨ kindOp r.o.op = 1 ∨ kindOp r.o.op = 2 ∨ kindOp r.o.op = 3 := by
                    unfold kindOp
                    split <;> simp
                  rcases hle with h | h | h | h
                  · exact h
                  · rw [hrk, h] at hk1; simp at hk1
                  · simp only [isAct] at c1; rw [hrk, h] at c1; simp at c1
                  · exact absurd hex (kind3_exec E h P fr.env s x s')
                refine stageQ_sound F prev k rs (d ||| 2 ^ r.i) (upd sv r.i x) (upd nb r.i none) (⟨r.i, r.o.op, fr.env, x⟩ :: ps) ms (fr.put r.o.dst x) s dEnd hmem' hst hev ?_
                refine rest _ _ _ _ (hnbu _) (Nat.le_refl _) (fun b hb => rfl) (fun hmk => by rw [isMk_kind hmk] at hkk; cases hkk) ?_
                refine inv_plan F J.inv hr c2 hbd (fun p hp => by simp [hp]) (fun j hj => upd_ne _ _ hj) (fun b hb => ?_) (Nat.le_refl _) (fun b hb => .inl rfl) (fun _ _ _ h => h) J.inv.rel J.inv.ext ?_
                · rw [upd_self] at hb; cases hb
                · exact ⟨fr.env, hopu _, .inr (.inl ⟨hw, hkk, by rw [upd_self]; simp⟩)⟩
          · simp [failB] at hev
          · simp [failB] at hev
      · rename_i hw
        refine stageQ_sound F prev k rs (d ||| 2 ^ r.i) (upd sv r.i (.tup [])) (upd nb r.i none) ps ms (fr.put r.o.dst (.tup [])) s dEnd hmem' hst hev ?_
        refine rest _ _ _ _ (hnbu _) (Nat.le_refl _) (fun b hb => rfl) (fun _ b hb => by cases hb) ?_
        refine inv_plan F J.inv hr c2 hbd (fun p hp => hp) (fun j hj => upd_ne _ _ hj) (fun b hb => ?_) (Nat.le_refl _) (fun b hb => .inl rfl) (fun _ _ _ h => h) J.inv.rel J.inv.ext ?_
        · rw [upd_self] at hb; cases hb
        · exact ⟨fr.env, hopu _, .inl ⟨hw, upd_self _ _ _⟩⟩
      · simp [failB] at hev
/-! ## the run fills a map -/
theorem filter_set {es : List (Nat × Nat × Nat × SV)} {i : Nat} (_hlt : i < L.size) (hno : ∀ x ∈ es, x.1 ≠ i) : es.filter (fun x => (L.setIfInBounds i true).getD x.1 false) = es.filter fun x => L.getD x.1 false := by
  apply List.filter_congr
  intro x hx
  rw [getD_set_ne false (fun e => hno x hx e.symm)]
theorem filter_take {es : List (Nat × Nat × Nat × SV)} {i l m : Nat} {v : SV} (hlt : i < L.size) (hLi : L.getD i false = false) : (es.map (·.1)).Nodup → (i, l, m, v) ∈ es → (es.filter fun x => (L.setIfInBounds i true).getD x.1 false).Perm ((i, l, m, v) :: es.filter fun x => L.getD x.1 false) := by
  induction es with
  | nil => intro _ h; cases h
  | cons y ys ih =>
    intro hn hm
    simp only [List.map_cons, List.nodup_cons] at hn
    have hset : (L.setIfInBounds i true).getD i false = true := (getD_set hlt i).2 (.inr rfl)
    rcases List.mem_cons.1 hm with rfl | hm
    · rw [List.filter_cons_of_pos (by simpa using hset), List.filter_cons_of_neg (by simp only; rw [hLi]; simp)]
      rw [filter_set hlt fun x hx e => hn.1 (List.mem_map.2 ⟨x, hx, e⟩)]
    · have hne : y.1 ≠ i := fun e => hn.1 (e ▸ List.mem_map.2 ⟨_, hm, rfl⟩)
      have ih' := ih hn.2 hm
      have hy : (L.setIfInBounds i true).getD y.1 false = L.getD y.1 false := getD_set_ne false (fun e => hne e.symm)
      cases hL : L.getD y.1 false with
      | true =>
        rw [List.filter_cons_of_pos (by rw [hy, hL]), List.filter_cons_of_pos (by rw [hL])]
        exact (List.Perm.cons y ih').trans (List.Perm.swap _ _ _)
      | false =>
        rw [List.filter_cons_of_neg (by rw [hy, hL]; simp), List.filter_cons_of_neg (by rw [hL]; simp)]
        exact ih'
end Go.Sh
namespace Go.Sh
variable [Opq]
open Go.RowKit (Below)
variable {I : Rho → World → Prop}
variable {P : Program} {E : EE} {callF : CallF}
variable {ops : Array Oper} {rows : List Row} {ρ0 : Rho} {s0 : St} {w0 : World} {N : Bound I} {n : Nat} {fr0 : Fr} {a0 : Act}
variable {d : Nat} {sv : Nat → SV} {nb : Nat → Option Nat} {ps : List Pend} {ms : List Nat} {fr : Fr} {s : St} {ρ : Rho} {L : Array Bool} {a : Act} {w : World}

theorem eqT_strs {h : Hp} {kt : TypeId} (hk : P.underlying kt = some .string) (l m a b : Nat) : eqT E P h 3 kt (.str l m) (.str a b) = some (eqStr l m a b) := by
  simp only [eqT, eqBoolS, eqIntS, eqStrS, eqPtrS, eqIfcS, eqSlcS, eqMapS, eqFnS, eqAggS, hk]
theorem keyOk_str {h : Hp} {kt : TypeId} (hk : P.underlying kt = some .string) (l m : Nat) : keyOk E P h kt (.str l m) = true := by
  unfold keyOk
  have h1 : sameKey (.str l m) (.str l m) = true := by
    show eqStr l m l m = true
    exact eqStr_iff.2 ⟨rfl, rfl⟩
  rw [h1, cond_true, eqT_strs hk, eqStr_iff.2 ⟨rfl, rfl⟩]
/-- the run does a row that was pending -/
theorem pendingQ_step {ro : Option Nat} (hP : PH P E) (F : RF ops rows) (J : InvQ P ops rows ρ0 s0 w0 N n fr0 a0 d sv nb ps ms fr s ρ L a w) (h0 : EnvR ρ0 fr0.env a0) (hG : Glob P.globals.size ρ0) (hok : ∀ (i : Nat) (r : Row), rows[i]? = some r → operOk n P.globals.size r.o = true) (hnd : ro ≠ none → ∀ (i : Nat) (r : Row), rows[i]? = some r → notDefer r.o.op = true) (hps : pendOk E P s ps = true)
    {i : Nat} (hi : i ∈ Region.ready .any ops L) (hdi : d.testBit i = true) {Q : Exit → Act → World → Prop} {K : Act → World → Prop}
    (hK : ∀ ρ' a' w', InvQ P ops rows ρ0 s0 w0 N n fr0 a0 d sv nb ps ms fr s ρ' (L.setIfInBounds i true) a' w' → K a' w') : wpOpIn (Wd ro) 0 P ops Q i K a w := by
  obtain ⟨r0, hr0, _, hLi, hlt, hbe0⟩ := ready_before F J.inv hi
  refine pending_step hP F J.inv h0 hG hok hnd hps hi hdi ?_ ?_
  · -- a filling
    rintro r σ hr _ _ hbe hopd hdst hk hsv ⟨t, tm, k, v, kt, et, b, l, m, es, g1, g2, g3, g4, g5, g6, g7, g8, g9⟩
    have hin : ∀ x ∈ r.o.op.operands, OR ρ σ a.eval x := hopd
    rw [g1] at hin
    have hm := hin (.tmp tm) (by simp [Op.operands]) (by show σ.get tm ≠ .bad; rw [g4]; simp)
    have hm' : VR ρ (.mp b) (a.eval (.tmp tm)) := by rw [← g4]; exact hm
    simp only [VR] at hm'
    obtain ⟨q, base, e, hb, hvm⟩ := hm'
    have hkv : VR ρ (.str l m) (a.eval k) := by rw [← g5]; exact hin k (by simp [Op.operands]) (by rw [g5]; simp)
    have hvv : VR ρ (evO v σ) (a.eval v) := hin v (by simp [Op.operands]) g6
    obtain ⟨q1, q2, es1, q3, q4, q5, q6, ⟨j, q7, tm', ⟨qr, qt, q8, q9, q10⟩, q11⟩, q12⟩ := J.mq b g7
    rw [g8] at q3; cases q3
    obtain ⟨es', clock, l0, p1, p2, p3⟩ := q12 q base e hb
    -- not in it yet
    have hmem : ∀ x ∈ l0, ∃ y ∈ es, L.getD y.1 false = true ∧ x.1 = .str y.2.1 y.2.2.1 := fun x hx => by
      have := p3.mem_iff.1 (List.mem_map.2 ⟨x, hx, rfl⟩)
      obtain ⟨y, hy, he⟩ := List.mem_map.1 this
      rw [Prod.mk.injEq] at he
      obtain ⟨hy1, hy2⟩ := List.mem_filter.1 hy
      exact ⟨y, hy1, hy2, he.1.symm⟩
    have hf : keyFind (eqT E P s.h 3 kt) (.str l m) l0 0 = some none := by
      rcases keyFind_str (eqT_strs (E := E) (h := s.h) g3 l m) l0 0 (fun x hx => by obtain ⟨y, _, _, h⟩ := hmem x hx; exact ⟨_, _, h⟩) with ⟨h1, _⟩ | ⟨j', v', b', _, h2⟩
      · exact h1
      · exfalso
        obtain ⟨y, hy, hLy, hye⟩ := hmem _ h2
        simp only [SV.str.injEq] at hye
        have := nodup_val q6 _ hy _ g9 (by rw [Prod.mk.injEq]; exact ⟨hye.1.symm, hye.2.symm⟩)
        subst this
        rw [hLi] at hLy; cases hLy
    obtain ⟨hc, rr, hrr, hfr⟩ := lookup_core hP.eok J.inv.rel (fun _ => hkv) (keyOk_str g3 l m) p2 hf
    have hrn : rr = none := hfr
    subst hrn
    have hwr : writable (s.h.get b) = true := by rw [g8]; rfl
    have hgo := run_getObj (P := P) w q _ p1 (by simp)
    have hso := fun o => run_setObj (P := P) w q o _ p1 (by simp)
    have hN := J.inv.rel.low _ _ _ _ hb hwr
    refine ⟨putB w q (.map (es'.push { key := a.eval k, val := a.eval v, born := clock }) (clock + 1)), ?_, ?_⟩
    · revert g1
      generalize r.o = o
      intro g1
      obtain ⟨d', op, ty, pos, af, gd⟩ := o
      simp only at g1
      subst g1
      simp only [execOp]
      apply run_u
      simp only [Instr.mapUpdate, Sem.run_bind, run_underlying g2, Result.andThen_ok, hvm, hgo, hc, hrr, hso]
    · have hrel : Rel ρ N s (putB w q (.map (es'.push { key := a.eval k, val := a.eval v, born := clock }) (clock + 1))) := J.inv.rel.poke hb hwr (by rw [g8]; simp [BR])
      refine hK ρ _ _ ⟨inv_do F J.inv hr hdi hLi hlt hbe hdst (by rw [hsv]; exact vrUndef) (Rho.le_refl ρ) hrel J.inv.ext (J.inv.below.trans (Below.putB hN)) (fun _ _ _ _ h => h), J.mnd, fun b' hb' => ?_, J.kq⟩
      have hqlt := J.inv.rel.bound _ _ _ _ hb
      by_cases hbb : b' = b
      · subst hbb
        refine ⟨q1, q2, es, g8, q4, q5, q6, ⟨j, q7, tm', ⟨qr, qt, q8, q9, q10⟩, q11⟩, fun q' base' e' hb'' => ?_⟩
        rw [hb] at hb''; cases hb''
        refine ⟨_, _, l0 ++ [(SV.str l m, evO v σ, clock)], by rw [putB_get _ _ _ hqlt, if_pos rfl], ?_, ?_⟩
        · rw [Array.toList_push]
          exact ER.append p2 hkv hvv rfl
        · rw [List.map_append]
          refine (List.perm_append_singleton _ _).trans ?_
          refine (List.Perm.cons _ p3).trans ?_
          exact ((filter_take hlt hLi q5 g9).map fun x : Nat × Nat × Nat × SV => (SV.str x.2.1 x.2.2.1, x.2.2.2)).symm
      · obtain ⟨k1, k2, es2, k3, k4, k5, k6, ⟨j2, k7, tm2, ⟨qr2, qt2, k8, k9, k10⟩, k11⟩, k12⟩ := J.mq b' hb'
        refine ⟨k1, k2, es2, k3, k4, k5, k6, ⟨j2, k7, tm2, ⟨qr2, qt2, k8, k9, k10⟩, k11⟩, fun q' base' e' hb'' => ?_⟩
        obtain ⟨es3, clock3, l3, m1, m2, m3⟩ := k12 q' base' e' hb''
        have hqq : q' ≠ q := fun e => by
          subst e
          exact hbb (J.inv.rel.inj _ _ _ _ _ _ _ hb'' hb (by rw [k3]; rfl) (by rw [g8]; rfl))
        refine ⟨es3, clock3, l3, by rw [putB_get _ _ _ hqlt, if_neg hqq]; exact m1, m2, ?_⟩
        rw [filter_set hlt fun x hx e => ?_]
        · exact m3
        · obtain ⟨r2, n1, ⟨_, _, t2, kk2, v2, n2⟩, _, _⟩ := k11 x hx
          rw [e, hr] at n1; cases n1
          obtain ⟨r3, o1, ⟨_, _, t3, kk3, v3, o2⟩, _, _⟩ := q11 _ g9
          rw [hr] at o1; cases o1
          rw [g1] at n2 o2
          simp only [Op.insert.injEq, Operand.tmp.injEq] at n2 o2
          have htt : tm2 = tm' := n2.2.1.symm.trans o2.2.1
          by_cases hjj : j2 = j
          · subst hjj
            rw [k7] at q7
            cases q7
            exact hbb rfl
          · rw [htt] at k10
            exact F.uniq j2 qr2 j qr tm' k8 q8 (fun e => hjj e.symm) q10 k10
  · -- the others
    intro ρ' a' w' J' hor
    refine hK ρ' a' w' ⟨J', J.mnd, fun b hb => ?_, J.kq⟩
    obtain ⟨k1, k2, es2, k3, k4, k5, k6, ⟨j2, k7, tm2, ⟨qr2, qt2, k8, k9, k10⟩, k11⟩, k12⟩ := J.mq b hb
    refine ⟨k1, k2, es2, k3, k4, k5, k6, ⟨j2, k7, tm2, ⟨qr2, qt2, k8, k9, k10⟩, k11⟩, fun q base e hb' => ?_⟩
    have hxi : (∀ r, rows[i]? = some r → ¬ (kindOp r.o.op = 3 ∧ r.o.guard = none)) → ∀ x ∈ es2, x.1 ≠ i := fun h x hx e => by
      obtain ⟨r2, n1, ⟨n2, n3, _⟩, _, _⟩ := k11 x hx
      rw [e] at n1
      exact h r2 n1 ⟨n2, n3⟩
    rcases hor with ⟨rfl, rfl, hno⟩ | ⟨r, b1, e1, o, mk, blk, σ, hr, hk1, hnb1, hn1, hmk, hB, rfl, rfl⟩
    · rw [filter_set hlt (hxi fun r hr h => by rcases hno r hr with h1 | h1; rw [h1] at h; cases h.1; exact h1 h.2)]
      exact k12 q base e hb'
    · have hx := hxi fun r' hr' h => by rw [hr] at hr'; cases hr'; rw [hk1] at h; cases h.1
      by_cases hbb : b = b1
      · subst hbb
        rw [Rho.add_self] at hb'
        cases hb'
        have hij := J.inv.nbne j2 i b k7 hnb1
        subst hij
        rw [k8] at hr; cases hr
        rw [k9] at hmk
        simp only [mkA, mkMap, Option.some.injEq, Prod.mk.injEq] at hmk
        obtain ⟨rfl, rfl⟩ := hmk
        obtain ⟨es', ho, her⟩ := hB
        cases ho
        refine ⟨es', 0, [], by rw [newB_get, if_pos rfl], her, ?_⟩
        rw [filter_set hlt hx, filter_none fun x hx' => ?_]
        · simp
        · cases hL : L.getD x.1 false with
          | false => rfl
          | true =>
            obtain ⟨r2, n1, _, n3, _⟩ := k11 x hx'
            have := J.inv.down x.1 r2 j2 n1 hL n3
            rw [hLi] at this; cases this
      · rw [Rho.add_ne _ _ hbb] at hb'
        obtain ⟨es3, clock3, l3, m1, m2, m3⟩ := k12 q base e hb'
        have := J.inv.rel.bound _ _ _ _ hb'
        refine ⟨es3, clock3, l3, by rw [newB_get, if_neg (by omega)]; exact m1, m2.mono (Rho.le_add hn1), ?_⟩
        rw [filter_set hlt hx]
        exact m3
end Go.Sh
namespace Go.Sh
variable [Opq]
open Go.RowKit (Below)
variable {I : Rho → World → Prop}
variable {P : Program} {E : EE} {callF : CallF}
variable {ops : Array Oper} {rows : List Row} {ρ0 : Rho} {s0 : St} {w0 : World} {N : Bound I} {n : Nat} {fr0 : Fr} {a0 : Act}
variable {d : Nat} {sv : Nat → SV} {nb : Nat → Option Nat} {ps : List Pend} {ms : List Nat} {fr : Fr} {s : St} {ρ : Rho} {L : Array Bool} {a : Act} {w : World}

/-! ## the maps are full -/
theorem seal_rel : ∀ (ms : List Nat) (s : St), ms.Nodup → (∀ b ∈ ms, s0.nx ≤ b ∧ ∃ es, s.h.get b = .mapp es ∧ ∀ q base e, ρ b = some (q, base, e) → BR ρ base e (sealB (.mapp es)) w.heap[q]?) → Rel ρ N s w → Ext ρ0 s0 ρ s →
    Rel ρ N (sealAll ms s) w ∧ Ext ρ0 s0 ρ (sealAll ms s) ∧ (sealAll ms s).nx = s.nx ∧ ∀ b, b ∉ ms → (sealAll ms s).h.get b = s.h.get b
  | [], s, _, _, H, hE => ⟨H, hE, rfl, fun _ _ => rfl⟩
  | b :: bs, s, hnd, hb, H, hE => by
    obtain ⟨h1, h2⟩ := List.nodup_cons.1 hnd
    obtain ⟨g1, es, g2, g3⟩ := hb b List.mem_cons_self
    have H' : Rel ρ N (s.withH (s.h.set b (sealB (s.h.get b)))) w := H.reblk (fun q base e hq => by rw [g2]; exact g3 q base e hq) (fun h => by rw [g2] at h; simp [sealB, writable] at h) (fun _ => by rw [g2]; rfl)
    have hne : ∀ b', b' ≠ b → (s.withH (s.h.set b (sealB (s.h.get b)))).h.get b' = s.h.get b' := fun b' h => Hp.get_set_ne _ _ _ _ h
    obtain ⟨k1, k2, k3, k4⟩ := seal_rel bs (s.withH (s.h.set b (sealB (s.h.get b)))) h2 (fun b' hb' => by
      obtain ⟨e1, es', e2, e3⟩ := hb b' (List.mem_cons_of_mem _ hb')
      exact ⟨e1, es', (hne b' (fun e => h1 (e ▸ hb'))).trans e2, e3⟩) H' (Ext.reblk hE g1 _)
    exact ⟨k1, k2, k3, fun b' hb' => (k4 b' (fun h => hb' (List.mem_cons_of_mem _ h))).trans (hne b' (fun e => hb' (e ▸ List.mem_cons_self)))⟩
theorem seal_inv (J : InvQ P ops rows ρ0 s0 w0 N n fr0 a0 d sv nb ps ms fr s ρ L a w) (hall : ∀ (i : Nat) (r : Row), rows[i]? = some r → kindOp r.o.op = 3 → L.getD i false = true) :
    Inv noPI P ops rows ρ0 s0 w0 N n fr0 a0 d sv nb ps fr (sealAll ms s) ρ L a w := by
  have hms : ∀ b ∈ ms, s0.nx ≤ b ∧ ∃ es, s.h.get b = .mapp es ∧ ∀ q base e, ρ b = some (q, base, e) → BR ρ base e (sealB (.mapp es)) w.heap[q]? := fun b hb => by
    obtain ⟨k1, k2, es, k3, k4, k5, k6, ⟨j, k7, tm, k8, k9⟩, k10⟩ := J.mq b hb
    refine ⟨k1, es, k3, fun q base e hq => ?_⟩
    obtain ⟨es', clock, l, g1, g2, g3⟩ := k10 q base e hq
    have hfl : es.filter (fun x => L.getD x.1 false) = es := by
      rw [List.filter_eq_self]
      intro x hx
      obtain ⟨r, n1, ⟨n2, _⟩, _, _⟩ := k9 x hx
      exact hall x.1 r n1 n2
    rw [hfl] at g3
    refine ⟨es', clock, l, g1, g2, ?_, ?_⟩
    · rw [List.map_map]; exact g3
    · rw [List.map_map]; exact k6
  obtain ⟨k1, k2, k3, k4⟩ := seal_rel ms s J.mnd hms J.inv.rel J.inv.ext
  exact { J.inv with
    nblt := fun j b hj => (by rw [k3]; exact J.inv.nblt j b hj)
    rel := k1
    ext := k2
    pend := fun i r hr hd hL => (by
      obtain ⟨σ, h1, h2⟩ := J.inv.pend i r hr hd hL
      refine ⟨σ, h1, ?_⟩
      rcases h2 with h2 | h2 | ⟨g1, g2, mk, blk, b, g3, g4, g5, g6, g7, g8⟩ | ⟨g1, g2, g3, g4⟩
      · exact .inl h2
      · exact .inr (.inl h2)
      · refine .inr (.inr (.inl ⟨g1, g2, mk, blk, b, g3, g4, g5, g6, g7, ?_⟩))
        by_cases hb : b ∈ ms
        · exfalso
          obtain ⟨q1, q2, es, q3, q4, q5, q6, ⟨j, q7, tm, q8, q9⟩, q10⟩ := J.mq b hb
          have hji := J.inv.nbne j i b q7 g4
          subst hji
          cases es with
          | nil => exact q4 rfl
          | cons x xs =>
            obtain ⟨r2, n1, ⟨n2, _⟩, n3, _⟩ := q9 x List.mem_cons_self
            have := J.inv.down x.1 r2 j n1 (hall x.1 r2 n1 n2) n3
            rw [hL] at this; cases this
        · rw [k4 b hb]; exact g8
      · have := hall i r hr g2
        rw [hL] at this; cases this) }
theorem insOf_bit : ∀ (rs : List Row) (r : Row), r ∈ rs → isIns r = true → (insOf rs).testBit r.i = true
  | [], r, h, _ => by cases h
  | q :: rs, r, h, hi => by
    simp only [insOf]
    rcases List.mem_cons.1 h with rfl | h
    · rw [hi, cond_true]; exact (bit_or _ _ _).2 (.inr rfl)
    · have := insOf_bit rs r h hi
      cases hq : isIns q with
      | true => rw [cond_true]; exact (bit_or _ _ _).2 (.inl this)
      | false => rw [cond_false]; exact this

/-- **A region that makes maps, fills them in an open order, and draws its order.** -/
theorem drawQ_sound {ro : Option Nat} (hP : PH P E) (hC : CallSound I P callF) (F : RF ops rows) (h0 : EnvR ρ0 fr0.env a0) (hG : Glob P.globals.size ρ0) (hok : ∀ (i : Nat) (r : Row), rows[i]? = some r → operOk n P.globals.size r.o = true) (hnd : ro ≠ none → ∀ (i : Nat) (r : Row), rows[i]? = some r → notDefer r.o.op = true) {kN : KN} {kX : KX} {ins : Nat}
    (hmask : ∀ (i : Nat) (r : Row), rows[i]? = some r → kindOp r.o.op = 3 → ins.testBit i = true) :
    ∀ (more : Sched) (d : Nat) (sv : Nat → SV) (nb : Nat → Option Nat) (ps : List Pend) (ms : List Nat) (fr : Fr) (s : St), (∀ q ∈ more, rows[q.1.i]? = some q.1 ∧ ∀ r ∈ q.2, rows[r.i]? = some r) → schedOk (2 ^ rows.length - 1) more d = true →
      evDrawQ E P callF ops rows ins s0.nx more fr s ps ms kN (fun x fr' s => kX x ⟨wipe fr0.env rows, fr'.ds⟩ s) = true → pendOk E P s ps = true →
      ∀ (fuel : Nat) (ρ : Rho) (L : Array Bool) (a : Act) (w : World), InvQ P ops rows ρ0 s0 w0 N n fr0 a0 d sv nb ps ms fr s ρ L a w → todo ops.size L ≤ fuel → wpAnyIn (Wd ro) 0 P .any ops (QC ρ0 s0 w0 N n kN kX) fuel L a w := by
  intro more
  induction more with
  | nil =>
    intro d sv nb ps ms fr s hmem hsch hev hps fuel
    simp only [evDrawQ] at hev
    have fin : ∀ (ρ : Rho) (L : Array Bool) (a : Act) (w : World), InvQ P ops rows ρ0 s0 w0 N n fr0 a0 d sv nb ps ms fr s ρ L a w → Region.ready .any ops L = [] → QC ρ0 s0 w0 N n kN kX .normal a w := fun ρ L a w J hr => by
      have hall := all_listed F J.inv.lsz hr
      have I' := seal_inv J fun i r hr' _ => hall i (by rw [← F.len]; exact (List.getElem?_eq_some_iff.1 hr').1)
      exact ⟨ρ, fr, _, final_env F I' h0 hall, I'.rel, I'.ext, I'.below, hev⟩
    induction fuel with
    | zero =>
      intro ρ L a w J htodo
      have hr : Region.ready .any ops L = [] := by
        rw [List.eq_nil_iff_forall_not_mem]
        intro i hi
        obtain ⟨r, hr, ho, hLi, hlt, _⟩ := ready_before F J.inv hi
        have := todo_set (m := ops.size) (by rw [← J.inv.lsz]; exact hlt) hlt hLi
        omega
      exact ⟨hr, fin ρ L a w J hr⟩
    | succ fuel ih =>
      intro ρ L a w J htodo
      refine ⟨fin ρ L a w J, fun i hi => ?_⟩
      obtain ⟨r, hr, ho, hLi, hlt, hbe⟩ := ready_before F J.inv hi
      have hlt' := todo_set (m := ops.size) (by rw [← J.inv.lsz]; exact hlt) hlt hLi
      cases hdi : d.testBit i with
      | true => exact pendingQ_step hP F J h0 hG hok hnd hps hi hdi fun ρ' a' w' J' => ih ρ' _ a' w' J' (by omega)
      | false =>
        exfalso
        simp only [schedOk] at hsch
        have := Nat.eq_of_beq_eq_true hsch
        subst this
        rw [Nat.testBit_two_pow_sub_one, decide_eq_false_iff_not] at hdi
        exact hdi (List.getElem?_eq_some_iff.1 hr).1
  | cons hd more ihm =>
    obtain ⟨e, st⟩ := hd
    intro d sv nb ps ms fr s hmem hsch hev hps fuel
    have hsch0 := hsch
    obtain ⟨he, hst⟩ := hmem (e, st) (by simp)
    simp only [schedOk] at hsch
    cases hc : (!(d.testBit e.i) && Nat.beq (e.before ||| d) d && laterOk e more) with
    | false => rw [hc] at hsch; simp at hsch
    | true =>
      rw [hc, cond_true] at hsch
      simp only [Bool.and_eq_true, Bool.not_eq_true'] at hc
      obtain ⟨⟨c1, c2⟩, c3⟩ := hc
      split at hsch
      · rename_i d' hstage
        induction fuel with
        | zero =>
          intro ρ L a w J htodo
          exfalso
          have hlt : e.i < ops.size := by rw [← F.len]; exact (List.getElem?_eq_some_iff.1 he).1
          have hLf : L.getD e.i false = false := by
            cases hb : L.getD e.i false with
            | false => rfl
            | true => have := J.inv.LX e.i hb; rw [c1] at this; cases this
          have := todo_set (m := ops.size) hlt (by rw [J.inv.lsz]; exact hlt) hLf
          omega
        | succ fuel ih =>
          intro ρ L a w J htodo
          refine ⟨fun hr => ?_, fun i hi => ?_⟩
          · exfalso
            have hlt : e.i < ops.size := by rw [← F.len]; exact (List.getElem?_eq_some_iff.1 he).1
            have := J.inv.LX e.i (all_listed F J.inv.lsz hr e.i hlt)
            rw [c1] at this; cases this
          · obtain ⟨r, hr, ho, hLi, hlt, hbe⟩ := ready_before F J.inv hi
            have hlt' := todo_set (m := ops.size) (by rw [← J.inv.lsz]; exact hlt) hlt hLi
            cases hdi : d.testBit i with
            | true => exact pendingQ_step hP F J h0 hG hok hnd hps hi hdi fun ρ' a' w' J' => ih ρ' _ a' w' J' (by omega)
            | false =>
              have hie := ready_next F hmem hsch0 hr hdi (fun j hj => J.inv.LX j (hbe j hj))
              subst hie
              rw [he] at hr; cases hr
              simp only [evDrawQ] at hev
              cases hloud : Nat.beq (ins ||| e.before) e.before with
              | true =>
                rw [hloud, cond_true] at hev
                cases hpo : pendOk E P (sealAll ms s) ps with
                | false => rw [hpo] at hev; simp [failB] at hev
                | true =>
                  rw [hpo, cond_true] at hev
                  have I' := seal_inv J fun i' r' hr' hk' => hbe i' (sub_of_or hloud i' (hmask i' r' hr' hk'))
                  exact (draw_sound hP hC F h0 hG hok hnd ((e, st) :: more) d sv nb ps fr (sealAll ms s) hmem hsch0 hev hpo (fuel + 1) ρ L a w I' htodo).2 e.i hi
              | false =>
                rw [hloud, cond_false] at hev
                have hbd : ∀ j, e.before.testBit j = true → d.testBit j = true := fun j hj => J.inv.LX j (hbe j hj)
                have hop := hok e.i e he
                unfold operOk at hop
                rw [Bool.and_eq_true] at hop
                have hσ := opEnv_now F J.inv he hdi hbd
                have hreal := real_of J.inv h0 he hLi hbe hσ
                have hG' := hG.mono J.inv.ext.le
                have hopd := opd_of hG' hop.2 hreal
                unfold wpOpIn
                simp only [ho]
                split at hev
                · rename_i hw
                  rw [wanted_sound hw hreal]
                  simp only [if_true]
                  have hs := exec_sound hP.eok J.inv.rel e.o hopd
                  split at hev
                  · rename_i f args s' hex
                    rw [hex] at hs
                    obtain ⟨rfl, args', hva, hres⟩ := hs
                    -- what follows the call
                    have go : ∀ (ρ' : Rho) (s1 : St) (w' : World) (x : SV) (v : Value), VR ρ' x v → Rel ρ' (tightN N w J.inv.rel.size) s1 w' → Ext ρ (roAll s') ρ' s1 → Below w.heap.size w w' →
                        evStageQ E P ops rows s0.nx st (fr.put e.o.dst x) (mergeNew s' s1) (stillPend e.before ps) ms (fun fr s ps ms => evDrawQ E P callF ops rows ins s0.nx more fr s ps ms kN (fun x fr' s => kX x ⟨wipe fr0.env rows, fr'.ds⟩ s)) = true →
                        wpAnyIn (Wd ro) 0 P .any ops (QC ρ0 s0 w0 N n kN kX) fuel (L.setIfInBounds e.i true) (a.put e.o.dst v) w' := by
                      intro ρ' s1 w' x v q1 q2 q3 q4 q5
                      have hold : ∀ b, b < s'.nx → (mergeNew s' s1).h.get b = s'.h.get b := fun b hb => merge_old hb
                      have I' := inv_act F J.inv he hdi hlt hbe hop.1 q1 (J.inv.rel.merge q2 q3 q4) (Ext.merge q3) (q4.mono J.inv.rel.size) (QI.keep fun b hb => hold b (J.mq b hb).2.1) (fr' := fr.put e.o.dst x) (a' := a.put e.o.dst v) rfl rfl (by rw [put_defers']; exact J.inv.dfr.mono q3.le)
                      have hke : kindOp e.o.op ≠ 3 := fun h => by
                        obtain ⟨t, m, k, v', h'⟩ := kind3_op h
                        rw [h'] at hex
                        simp only [exec, exMapUpdate] at hex
                        split at hex
                        · cases hex
                        · unfold mapPut at hex
                          split at hex
                          · rename_i kt e' b' _ _
                            cases hk : keyOk E P s'.h kt (evO k fr.env) with
                            | false => rw [hk] at hex; cases hex
                            | true =>
                              rw [hk, cond_true] at hex
                              split at hex
                              · split at hex
                                · rename_i k' _
                                  cases hs : sameKey k' (evO k fr.env) <;> rw [hs] at hex <;> cases hex
                                · cases hex
                                · cases hex
                              · cases hex
                          · cases hex
                      have hmk : isMk e.o.op ≠ true := fun h => by
                        obtain ⟨t, h'⟩ := isMk_op h
                        rw [h'] at hex
                        simp only [exec, exNew, newR] at hex
                        split at hex <;> cases hex
                      have J' : InvQ P ops rows ρ0 s0 w0 N n fr0 a0 (d ||| 2 ^ e.i) (upd sv e.i x) nb (stillPend e.before ps) ms (fr.put e.o.dst x) (mergeNew s' s1) ρ' (L.setIfInBounds e.i true) (a.put e.o.dst v) w' := by
                        refine ⟨I', J.mnd, fun b hb => ?_, fun j q hq hmk' hdj b hb => ?_⟩
                        · obtain ⟨k1, k2, es2, k3, k4, k5, k6, ⟨j2, k7, tm2, k8, k11⟩, k12⟩ := J.mq b hb
                          refine ⟨k1, Nat.lt_of_lt_of_le k2 q3.nx, es2, (hold b k2).trans k3, k4, k5, k6, ⟨j2, k7, tm2, k8, fun x hx => let ⟨r, n1, n2, n3, n4⟩ := k11 x hx; ⟨r, n1, n2, n3, (bit_or d e.i _).2 (.inl n4)⟩⟩, fun q base e' hb' => ?_⟩
                          have hρ : ρ b = some (q, base, e') := by
                            cases hr : ρ b with
                            | none => have := (q3.keep b k2 hr).1; rw [this] at hb'; cases hb'
                            | some y => have := q3.le b y hr; rw [this] at hb'; exact hb'
                          obtain ⟨es3, clock3, l3, m1, m2, m3⟩ := k12 q base e' hρ
                          refine ⟨es3, clock3, l3, by rw [q4.block q (J.inv.rel.bound _ _ _ _ hρ)]; exact m1, m2.mono q3.le, ?_⟩
                          rw [filter_set hlt fun x hx e' => ?_]
                          · exact m3
                          · obtain ⟨r, n1, n2, _, _⟩ := k11 x hx
                            rw [e', he] at n1; cases n1
                            exact hke n2.1
                        · have hne : j ≠ e.i := fun h => by subst h; rw [he] at hq; cases hq; exact hmk hmk'
                          rw [upd_ne _ _ hne] at hb
                          rcases (bit_or d e.i j).1 hdj with h | h
                          · exact J.kq j q hq hmk' h b hb
                          · exact absurd h hne
                      obtain ⟨sv', nb', ps', ms', fr1, s2, J1, hp1, hk1⟩ := stageQ_sound F (2 ^ e.i) _ st _ _ _ _ _ _ _ d' hst hstage q5 J'
                      exact ihm d' sv' nb' ps' ms' fr1 s2 (fun q hq => hmem q (by simp [hq])) hsch hk1 hp1 fuel ρ' _ _ w' J1 (by omega)
                    refine ⟨fun _ _ => trivial, ?_⟩
                    rw [semAt_eq (fun h => hnd h e.i e he), hres]
                    rcases hC.f f args (roAll s') _ _ hev ρ (tightN N w J.inv.rel.size) w args' J.inv.rel.toRo hG' hva with ⟨h2, h3⟩ | ⟨v, w', h2, ρ', s1, x, h3, h4, h5, h6, h7⟩
                    · rw [h2, Oper.uponIn_enter]
                      refine ⟨(fun h => by cases h), Wd.callsIn (Calls.mono h3 fun e1 w' he1 => ?_)⟩
                      cases e1 with
                      | returned v =>
                        obtain ⟨ρ', s1, x, q1, q2, q3, q4, q5⟩ := he1
                        exact go ρ' s1 w' x v q1 q2 q3 q4 q5
                      | panicked chain =>
                        obtain ⟨ρ', s1, x, v, rfl, q1, q2, q3, q4, q5⟩ := he1
                        simp [failB] at q5
                      | outgrown => exact he1.elim
                    · rw [h2, Oper.uponIn_value]
                      exact go ρ' s1 w' x v h3 h4 h5 h6 h7
                  · simp [failB] at hev
                · simp [failB] at hev
      · cases hsch
end Go.Sh
namespace Go.Sh
variable [Opq]
open Go.RowKit (Below)
variable {I : Rho → World → Prop}
variable {P : Program} {E : EE} {callF : CallF}

theorem stagesFrom_mem {acts rows : List Row} : ∀ {l : List Row} {m : Nat} {q : Row × List Row}, q ∈ stagesFrom acts rows l m → q.1 ∈ l ∧ ∀ r ∈ q.2, r ∈ rows
  | [], m, q, h => by simp [stagesFrom] at h
  | e :: es, m, q, h => by
    simp only [stagesFrom] at h
    rcases List.mem_cons.1 h with rfl | h
    · exact ⟨by simp, fun r hr => (List.mem_filter.1 hr).1⟩
    · obtain ⟨h1, h2⟩ := stagesFrom_mem h
      exact ⟨by simp [h1], h2⟩
theorem region_sound {ro : Option Nat} (hM : P.follows .mixedOrders = true) (hP : PH P E) (hC : CallSound I P callF) {id n : Nat} {N : Bound I} {ops : Array Oper} {fr : Fr} {s : St} {kN : KN} {kX : KX} {ρ : Rho} {a : Act} {w : World}
    (h : drawS E P callF ops (rowsOf ops) fr s kN kX = true) (hok : ops.toList.all (operOk n P.globals.size) = true) (hnd : ro ≠ none → ops.toList.all (fun o => notDefer o.op) = true) (hF : FrR ρ n fr a) (H : Rel ρ N s w) (hG : Glob P.globals.size ρ) :
    (Code.region id ops true).wpIn (Wd ro) 0 P (QC ρ s w N n kN kX) a w := by
  unfold drawS at h
  cases hd : drawOk ops (rowsOf ops) (sched (rowsOf ops)) with
  | false => rw [hd] at h; simp [failB] at h
  | true =>
    rw [hd, cond_true] at h
    unfold drawOk at hd
    rw [Bool.and_eq_true] at hd
    have F := RF.of_check hd.1
    have hrow : ∀ r ∈ rowsOf ops, (rowsOf ops)[r.i]? = some r := fun r hr => by
      obtain ⟨k, hk⟩ := List.mem_iff_getElem?.1 hr
      have := (rowsOf_get hk).1
      rw [this]; exact hk
    have hmem : ∀ q ∈ (sched (rowsOf ops)).2, (rowsOf ops)[q.1.i]? = some q.1 ∧ ∀ r ∈ q.2, (rowsOf ops)[r.i]? = some r := fun q hq => by
      obtain ⟨h1, h2⟩ := stagesFrom_mem hq
      exact ⟨hrow _ (List.mem_filter.1 h1).1, fun r hr => hrow r (h2 r hr)⟩
    have hmem0 : ∀ r ∈ (sched (rowsOf ops)).1, (rowsOf ops)[r.i]? = some r := fun r hr => hrow r (List.mem_filter.1 hr).1
    have hok' : ∀ (i : Nat) (r : Row), (rowsOf ops)[i]? = some r → operOk n P.globals.size r.o = true := fun i r hr => by
      have := (rowsOf_get hr).2.1
      exact List.all_eq_true.1 hok r.o (by rw [← Array.getElem?_toList] at this; exact List.mem_of_getElem? this)
    have hnd' : ro ≠ none → ∀ (i : Nat) (r : Row), (rowsOf ops)[i]? = some r → notDefer r.o.op = true := fun hro i r hr => by
      have := (rowsOf_get hr).2.1
      exact List.all_eq_true.1 (hnd hro) r.o (by rw [← Array.getElem?_toList] at this; exact List.mem_of_getElem? this)
    have hd2 := hd.2
    split at hd2
    · rename_i dEnd hst
      refine wpIn_region_any hM ?_
      have start : ∀ PI : St → Nat → Oper → En → Prop, Inv PI P ops (rowsOf ops) ρ s w N n fr a 0 (fun _ => .bad) (fun _ => none) [] fr s ρ (Array.replicate ops.size false) a { w with drawn := w.drawn + 1 } := by
        intro PI
        have hrep : ∀ i, (Array.replicate ops.size false).getD i false = false := fun i => by
          simp only [Array.getD_eq_getD_getElem?, Array.getElem?_replicate]
          split <;> rfl
        have hno : ∀ {i : Nat} {Q : Prop}, (Array.replicate ops.size false).getD i false = true → Q := fun {i Q} hi => by rw [hrep i] at hi; cases hi
        have hz : ∀ {i : Nat} {Q : Prop}, Nat.testBit 0 i = true → Q := fun {i Q} hi => by simp at hi
        exact {
          lsz := by simp
          LX := fun i hi => hno hi
          down := fun i r j _ hi => hno hi
          XR := fun i hi => hz hi
          downX := fun i r j _ hi => hz hi
          env := fun t ht => .inr ⟨fun i r _ hi => hz hi, rfl⟩
          real := fun i r t _ hi => hno hi
          rest := fun t _ => rfl
          size := hF.size
          dfr := hF.dfr
          pend := fun i r _ hi => hz hi
          nbne := fun i j b hi => by cases hi
          nblt := fun j b hj => by cases hj
          rel := H.drawn _
          ext := Ext.refl ρ s
          below := Below.drawn _ }
      have htodo : todo ops.size (Array.replicate ops.size false) ≤ ops.size := by
        unfold todo
        have := List.countP_le_length (p := fun i => !((Array.replicate ops.size false).getD i false)) (l := List.range ops.size)
        simpa using this
      cases hins : Nat.beq (insOf (rowsOf ops)) 0 with
      | true =>
        rw [hins, cond_true] at h
        obtain ⟨sv', nb', ps', fr1, s1, I1, hp1, hk1⟩ := stage_sound (fun _ _ _ _ _ h => h) F 0 _ _ _ _ _ _ _ _ dEnd hmem0 hst h (start noPI)
        exact draw_sound hP hC F hF.env hG hok' hnd' _ dEnd sv' nb' ps' fr1 s1 hmem hd2 hk1 hp1 ops.size ρ _ a _ I1 htodo
      | false =>
        rw [hins, cond_false] at h
        have J : InvQ P ops (rowsOf ops) ρ s w N n fr a 0 (fun _ => .bad) (fun _ => none) [] [] fr s ρ (Array.replicate ops.size false) a { w with drawn := w.drawn + 1 } :=
          ⟨start _, List.nodup_nil, fun b hb => (by cases hb), fun j q _ _ hd => (by simp at hd)⟩
        obtain ⟨sv', nb', ps', ms', fr1, s1, J1, hp1, hk1⟩ := stageQ_sound F 0 _ _ _ _ _ _ _ _ _ dEnd hmem0 hst h J
        refine drawQ_sound hP hC F hF.env hG hok' hnd' (fun i r hr hk => ?_) _ dEnd sv' nb' ps' ms' fr1 s1 hmem hd2 hk1 hp1 ops.size ρ _ a _ J1 htodo
        have hri := (rowsOf_get hr)
        have := insOf_bit (rowsOf ops) r (List.mem_of_getElem? hr) (by unfold isIns; rw [hri.2.2, hk]; rfl)
        rw [hri.1] at this
        exact this
    · cases hd2
end Go.Sh
