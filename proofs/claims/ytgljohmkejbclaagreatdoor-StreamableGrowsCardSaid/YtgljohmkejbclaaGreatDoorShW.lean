/- Part of a proof about calls of this program: the evaluator of the first text is sound; this text is one step of it. No condition. -/
import Derived.Test.YtgljohmkejbclaaGreatDoorShU
set_option linter.unusedSectionVars false
set_option linter.unusedSimpArgs false
set_option linter.unusedVariables false
namespace Go.Sh
open Go.RowKit (Below)
variable {I : Rho → World → Prop}
variable {P : Program} {E : TypeId → Bool} {callF : CallF}
variable {ops : Array Oper} {rows : List Row} {ρ0 : Rho} {s0 : St} {w0 : World} {N : Bound I} {n : Nat} {fr0 : Fr} {a0 : Act}

/-- a row that is not done is one of the acts to come, or one of the rows behind them -/
theorem sched_has {full : Nat} : ∀ (more : Sched) (d : Nat), schedOk full more d = true → ∀ i, full.testBit i = true → d.testBit i = false → ∃ q ∈ more, q.1.i = i ∨ ∃ r ∈ q.2, r.i = i
  | [], d, h, i, hf, hd => by
    simp only [schedOk] at h
    have := Nat.eq_of_beq_eq_true h
    subst this
    rw [hf] at hd; cases hd
  | (e, st) :: more, d, h, i, hf, hd => by
    simp only [schedOk] at h
    cases hc : (!(d.testBit e.i) && Nat.beq (e.before ||| d) d && laterOk e more) with
    | false => rw [hc] at h; simp at h
    | true =>
      rw [hc, cond_true] at h
      split at h
      · rename_i d' hst
        by_cases he : e.i = i
        · exact ⟨(e, st), by simp, .inl he⟩
        · by_cases hin : ∃ r ∈ st, r.i = i
          · exact ⟨(e, st), by simp, .inr hin⟩
          · have hd' : d'.testBit i = false := by
              have key : ∀ (st : List Row) (d d' : Nat), stageOk (2 ^ e.i) st d = some d' → d.testBit i = false → (∀ r ∈ st, r.i ≠ i) → d'.testBit i = false := by
                intro st
                induction st with
                | nil => intro d d' h1 h2 _; simp only [stageOk] at h1; cases h1; exact h2
                | cons r rs ih =>
                  intro d d' h1 h2 h3
                  simp only [stageOk] at h1
                  cases hc : (!(isAct r) && !(d.testBit r.i) && Nat.beq (r.before ||| d) d && Nat.beq (2 ^ e.i ||| r.before) r.before) with
                  | false => rw [hc] at h1; simp at h1
                  | true =>
                    rw [hc, cond_true] at h1
                    refine ih _ _ h1 ?_ fun q hq => h3 q (by simp [hq])
                    cases hb : (d ||| 2 ^ r.i).testBit i with
                    | false => rfl
                    | true =>
                      rcases (bit_or d r.i i).1 hb with h4 | h4
                      · rw [h4] at h2; cases h2
                      · exact absurd h4.symm (h3 r (by simp))
              refine key st _ d' hst ?_ fun r hr hri => hin ⟨r, hr, hri⟩
              cases hb : (d ||| 2 ^ e.i).testBit i with
              | false => rfl
              | true =>
                rcases (bit_or d e.i i).1 hb with h4 | h4
                · rw [h4] at hd; cases hd
                · exact absurd h4.symm he
            obtain ⟨q, hq, hor⟩ := sched_has more d' h i hf hd'
            exact ⟨q, by simp [hq], hor⟩
      · cases h
theorem stageOk_prev {prev : Nat} : ∀ {st : List Row} {d d' : Nat}, stageOk prev st d = some d' → ∀ r ∈ st, ∀ j, prev.testBit j = true → r.before.testBit j = true
  | [], _, _, _, r, hr => by simp at hr
  | x :: st, d, d', h, r, hr => by
    simp only [stageOk] at h
    cases hc : (!(isAct x) && !(d.testBit x.i) && Nat.beq (x.before ||| d) d && Nat.beq (prev ||| x.before) x.before) with
    | false => rw [hc] at h; simp at h
    | true =>
      rw [hc, cond_true] at h
      simp only [Bool.and_eq_true] at hc
      rcases List.mem_cons.1 hr with rfl | hr
      · exact fun j hj => sub_of_or hc.2 j hj
      · exact stageOk_prev h r hr
/-- rows behind a later act wait for that act -/
theorem sched_stage {full : Nat} : ∀ (more : Sched) (d : Nat), schedOk full more d = true → ∀ q ∈ more, ∀ r ∈ q.2, r.before.testBit q.1.i = true
  | [], d, h, q, hq => by simp at hq
  | (e, st) :: more, d, h, q, hq => by
    simp only [schedOk] at h
    cases hc : (!(d.testBit e.i) && Nat.beq (e.before ||| d) d && laterOk e more) with
    | false => rw [hc] at h; simp at h
    | true =>
      rw [hc, cond_true] at h
      split at h
      · rename_i d' hst
        rcases List.mem_cons.1 hq with rfl | hq
        · intro r hr
          exact stageOk_prev hst r hr e.i (by simp)
        · exact sched_stage more d' h q hq
      · cases h
/-- a row whose turn has come, and that the shadow has not done, is the next act -/
theorem ready_next (F : RF ops rows) {d : Nat} {e : Row} {st : List Row} {more : Sched} (hmem : ∀ q ∈ (e, st) :: more, rows[q.1.i]? = some q.1 ∧ ∀ r ∈ q.2, rows[r.i]? = some r) (h : schedOk (2 ^ rows.length - 1) ((e, st) :: more) d = true)
    {i : Nat} {r : Row} (hr : rows[i]? = some r) (hd : d.testBit i = false) (hbe : ∀ j, r.before.testBit j = true → d.testBit j = true) : i = e.i := by
  have h0 := h
  have hfull : (2 ^ rows.length - 1).testBit i = true := by
    rw [Nat.testBit_two_pow_sub_one, decide_eq_true_eq]
    exact (List.getElem?_eq_some_iff.1 hr).1
  obtain ⟨q, hq, hor⟩ := sched_has _ _ h i hfull hd
  simp only [schedOk] at h
  cases hc : (!(d.testBit e.i) && Nat.beq (e.before ||| d) d && laterOk e more) with
  | false => rw [hc] at h; simp at h
  | true =>
    simp only [Bool.and_eq_true, Bool.not_eq_true'] at hc
    obtain ⟨⟨c1, c2⟩, c3⟩ := hc
    have hno : r.before.testBit e.i = true → False := fun hb => by have := hbe e.i hb; rw [c1] at this; cases this
    rcases List.mem_cons.1 hq with rfl | hq
    · rcases hor with h1 | ⟨r', hr', h1⟩
      · exact h1.symm
      · have h2 := (hmem (e, st) (by simp)).2 r' hr'
        rw [h1, hr] at h2; cases h2
        exact (hno (sched_stage _ _ h0 (e, st) (by simp) r hr')).elim
    · have hlater := List.all_eq_true.1 c3 q hq
      have hq1 := (hmem q (by simp [hq])).1
      rcases hor with h1 | ⟨r', hr', h1⟩
      · rw [h1, hr] at hq1; cases hq1
        exact (hno hlater).elim
      · have h2 := (hmem q (by simp [hq])).2 r' hr'
        rw [h1, hr] at h2; cases h2
        have h3 := sched_stage _ _ h0 q (by simp [hq]) r hr'
        exact (hno ((F.closed i r q.1.i q.1 hr hq1 h3).2 e.i hlater)).elim
/-- **A region that draws its order.** -/
theorem draw_sound {ro : Option Nat} (hP : PH P E) (hC : CallSound I P callF) (F : RF ops rows) (h0 : EnvR ρ0 fr0.env a0) (hG : Glob P.globals.size ρ0) (hok : ∀ (i : Nat) (r : Row), rows[i]? = some r → operOk n P.globals.size r.o = true) (hnd : ro ≠ none → ∀ (i : Nat) (r : Row), rows[i]? = some r → notDefer r.o.op = true) {kN : KN} {kX : KX} :
    ∀ (more : Sched) (d : Nat) (sv : Nat → SV) (nb : Nat → Option Nat) (ps : List Pend) (fr : Fr) (s : St), (∀ q ∈ more, rows[q.1.i]? = some q.1 ∧ ∀ r ∈ q.2, rows[r.i]? = some r) → schedOk (2 ^ rows.length - 1) more d = true →
      evDraw E P callF ops more fr s ps kN (fun x fr' s => kX x ⟨wipe fr0.env rows, fr'.ds⟩ s) = true → pendOk E P s ps = true →
      ∀ (fuel : Nat) (ρ : Rho) (L : Array Bool) (a : Act) (w : World), Inv P ops rows ρ0 s0 w0 N n fr0 a0 d sv nb ps fr s ρ L a w → todo ops.size L ≤ fuel → wpAnyIn (Wd ro) 0 P .any ops (QC ρ0 s0 w0 N n kN kX) fuel L a w := by
  intro more
  induction more with
  | nil =>
    intro d sv nb ps fr s hmem hsch hev hps fuel
    have fin : ∀ (ρ : Rho) (L : Array Bool) (a : Act) (w : World), Inv P ops rows ρ0 s0 w0 N n fr0 a0 d sv nb ps fr s ρ L a w → Region.ready .any ops L = [] → QC ρ0 s0 w0 N n kN kX .normal a w := fun ρ L a w I hr =>
      ⟨ρ, fr, s, final_env F I h0 (all_listed F I.lsz hr), I.rel, I.ext, I.below, hev⟩
    induction fuel with
    | zero =>
      intro ρ L a w I htodo
      have hr : Region.ready .any ops L = [] := by
        rw [List.eq_nil_iff_forall_not_mem]
        intro i hi
        obtain ⟨r, hr, ho, hLi, hlt, _⟩ := ready_before F I hi
        have := todo_set (m := ops.size) (by rw [← I.lsz]; exact hlt) hlt hLi
        omega
      exact ⟨hr, fin ρ L a w I hr⟩
    | succ fuel ih =>
      intro ρ L a w I htodo
      refine ⟨fin ρ L a w I, fun i hi => ?_⟩
      obtain ⟨r, hr, ho, hLi, hlt, hbe⟩ := ready_before F I hi
      have hlt' := todo_set (m := ops.size) (by rw [← I.lsz]; exact hlt) hlt hLi
      cases hdi : d.testBit i with
      | true => exact pending_step hP F I h0 hG hok hnd hps hi hdi fun ρ' a' w' I' => ih ρ' _ a' w' I' (by omega)
      | false =>
        exfalso
        simp only [schedOk] at hsch
        have := Nat.eq_of_beq_eq_true hsch
        subst this
        rw [Nat.testBit_two_pow_sub_one, decide_eq_false_iff_not] at hdi
        exact hdi (List.getElem?_eq_some_iff.1 hr).1
  | cons hd more ihm =>
    obtain ⟨e, st⟩ := hd
    intro d sv nb ps fr s hmem hsch hev hps fuel
    have hsch0 := hsch
    obtain ⟨he, hst⟩ := hmem (e, st) (by simp)
    simp only [schedOk] at hsch
    cases hc : (!(d.testBit e.i) && Nat.beq (e.before ||| d) d && laterOk e more) with
    | false => rw [hc] at hsch; simp at hsch
    | true =>
      rw [hc, cond_true] at hsch
      simp only [Bool.and_eq_true, Bool.not_eq_true'] at hc
      obtain ⟨⟨c1, c2⟩, c3⟩ := hc
      split at hsch
      · rename_i d' hstage
        induction fuel with
        | zero =>
          intro ρ L a w I htodo
          exfalso
          have hlt : e.i < ops.size := by rw [← F.len]; exact (List.getElem?_eq_some_iff.1 he).1
          have hLf : L.getD e.i false = false := by
            cases hb : L.getD e.i false with
            | false => rfl
            | true => have := I.LX e.i hb; rw [c1] at this; cases this
          have := todo_set (m := ops.size) hlt (by rw [I.lsz]; exact hlt) hLf
          omega
        | succ fuel ih =>
          intro ρ L a w I htodo
          refine ⟨fun hr => ?_, fun i hi => ?_⟩
          · exfalso
            have hlt : e.i < ops.size := by rw [← F.len]; exact (List.getElem?_eq_some_iff.1 he).1
            have := I.LX e.i (all_listed F I.lsz hr e.i hlt)
            rw [c1] at this; cases this
          · obtain ⟨r, hr, ho, hLi, hlt, hbe⟩ := ready_before F I hi
            have hlt' := todo_set (m := ops.size) (by rw [← I.lsz]; exact hlt) hlt hLi
            cases hdi : d.testBit i with
            | true => exact pending_step hP F I h0 hG hok hnd hps hi hdi fun ρ' a' w' I' => ih ρ' _ a' w' I' (by omega)
            | false =>
              have hie := ready_next F hmem hsch0 hr hdi (fun j hj => I.LX j (hbe j hj))
              subst hie
              rw [he] at hr; cases hr
              have hbd : ∀ j, e.before.testBit j = true → d.testBit j = true := fun j hj => I.LX j (hbe j hj)
              have hop := hok e.i e he
              unfold operOk at hop
              rw [Bool.and_eq_true] at hop
              have hσ := opEnv_now F I he hdi hbd
              have hreal := real_of I h0 he hLi hbe hσ
              have hG' := hG.mono I.ext.le
              have hopd := opd_of hG' hop.2 hreal
              -- what follows an act
              have go : ∀ (ρ' : Rho) (s' : St) (w' : World) (x : SV) (v : Value) (fr' : Fr) (a' : Act), VR ρ' x v → Rel ρ' N s' w' → Ext ρ s ρ' s' → Below N w w' → fr'.env = putD fr.env e.o.dst x → a'.tmps = (a.put e.o.dst v).tmps → DfR ρ' fr'.ds a'.defers →
                  evStage E P ops st fr' s' (stillPend e.before ps) (fun fr s ps => evDraw E P callF ops more fr s ps kN (fun x fr' s => kX x ⟨wipe fr0.env rows, fr'.ds⟩ s)) = true →
                  wpAnyIn (Wd ro) 0 P .any ops (QC ρ0 s0 w0 N n kN kX) fuel (L.setIfInBounds e.i true) a' w' := by
                intro ρ' s' w' x v fr' a' q1 q2 q3 q4 q5 q6 q7 q8
                have I' := inv_act F I he hdi hlt hbe hop.1 q1 q2 q3 q4 q5 q6 q7
                obtain ⟨sv', nb', ps', fr1, s1, I1, hp1, hk1⟩ := stage_sound F (2 ^ e.i) _ st _ _ _ _ _ _ d' hst hstage q8 I'
                exact ihm d' sv' nb' ps' fr1 s1 (fun q hq => hmem q (by simp [hq])) hsch hk1 hp1 fuel ρ' _ a' w' I1 (by omega)
              simp only [evDraw] at hev
              unfold wpOpIn
              simp only [ho]
              split at hev
              · rename_i hw
                rw [wanted_sound hw hreal]
                simp only [if_true]
                cases hnf : noFork (exec E e.o.op P fr.env s) with
                | false => simp only [hnf] at hev; simp [failB] at hev
                | true =>
                  simp only [hnf, cond_true] at hev
                  have hs := exec_sound hP.eok I.rel e.o hopd
                  refine ⟨fun _ _ => trivial, ?_⟩
                  rw [semAt_eq (fun h => hnd h e.i e he)]
                  refine outR_sound hC I.rel hG' hs hev ?_ ?_ ?_
                  · intro ρ' s' w' x v q1 q2 q3 q4 q5
                    exact go ρ' s' w' x v (fr.put e.o.dst x) _ q1 q2 q3 q4 rfl rfl (by rw [put_defers']; exact I.dfr.mono q3.le) q5
                  · intro ρ' s' w' x v q1 q2 q3 q4 q5
                    refine ⟨ρ', ⟨wipe fr0.env rows, fr.ds⟩, s', x, v, rfl, q1, ⟨(env_wiped I h0).mono q3.le, I.size, I.dfr.mono q3.le⟩, q2, I.ext.trans q3, I.below.trans q4, q5⟩
                  · intro f args a' c' q1 q2
                    refine go ρ s w (.tup []) undef (Fr.put ⟨fr.env, Df.fn f args :: fr.ds⟩ e.o.dst (.tup [])) _ vrUndef I.rel (Ext.refl ρ s) (Below.refl N w) rfl ?_ ?_ q2
                    · cases e.o.dst <;> rfl
                    · rw [put_defers']
                      exact ⟨a', c', a.defers, q1, rfl, I.dfr⟩
              · rename_i hw
                rw [wanted_sound hw hreal]
                simp only [Bool.false_eq_true, if_false]
                exact ⟨fun _ _ => trivial, go ρ s w (.tup []) undef (fr.put e.o.dst (.tup [])) _ vrUndef I.rel (Ext.refl ρ s) (Below.refl N w) rfl rfl (by rw [put_defers']; exact I.dfr) hev⟩
              · simp [failB] at hev
      · cases hsch
end Go.Sh
namespace Go.Sh
open Go.RowKit (Below)
variable {I : Rho → World → Prop}
variable {P : Program} {E : TypeId → Bool} {callF : CallF}

theorem stagesFrom_mem {acts rows : List Row} : ∀ {l : List Row} {m : Nat} {q : Row × List Row}, q ∈ stagesFrom acts rows l m → q.1 ∈ l ∧ ∀ r ∈ q.2, r ∈ rows
  | [], m, q, h => by simp [stagesFrom] at h
  | e :: es, m, q, h => by
    simp only [stagesFrom] at h
    rcases List.mem_cons.1 h with rfl | h
    · exact ⟨by simp, fun r hr => (List.mem_filter.1 hr).1⟩
    · obtain ⟨h1, h2⟩ := stagesFrom_mem h
      exact ⟨by simp [h1], h2⟩
theorem region_sound {ro : Option Nat} (hM : P.follows .mixedOrders = true) (hP : PH P E) (hC : CallSound I P callF) {id n : Nat} {N : Bound I} {ops : Array Oper} {fr : Fr} {s : St} {kN : KN} {kX : KX} {ρ : Rho} {a : Act} {w : World}
    (h : drawS E P callF ops (rowsOf ops) fr s kN kX = true) (hok : ops.toList.all (operOk n P.globals.size) = true) (hnd : ro ≠ none → ops.toList.all (fun o => notDefer o.op) = true) (hF : FrR ρ n fr a) (H : Rel ρ N s w) (hG : Glob P.globals.size ρ) :
    (Code.region id ops true).wpIn (Wd ro) 0 P (QC ρ s w N n kN kX) a w := by
  unfold drawS at h
  cases hd : drawOk ops (rowsOf ops) (sched (rowsOf ops)) with
  | false => rw [hd] at h; simp [failB] at h
  | true =>
    rw [hd, cond_true] at h
    unfold drawOk at hd
    rw [Bool.and_eq_true] at hd
    have F := RF.of_check hd.1
    have hrow : ∀ r ∈ rowsOf ops, (rowsOf ops)[r.i]? = some r := fun r hr => by
      obtain ⟨k, hk⟩ := List.mem_iff_getElem?.1 hr
      have := (rowsOf_get hk).1
      rw [this]; exact hk
    have hmem : ∀ q ∈ (sched (rowsOf ops)).2, (rowsOf ops)[q.1.i]? = some q.1 ∧ ∀ r ∈ q.2, (rowsOf ops)[r.i]? = some r := fun q hq => by
      obtain ⟨h1, h2⟩ := stagesFrom_mem hq
      exact ⟨hrow _ (List.mem_filter.1 h1).1, fun r hr => hrow r (h2 r hr)⟩
    have hmem0 : ∀ r ∈ (sched (rowsOf ops)).1, (rowsOf ops)[r.i]? = some r := fun r hr => hrow r (List.mem_filter.1 hr).1
    have hok' : ∀ (i : Nat) (r : Row), (rowsOf ops)[i]? = some r → operOk n P.globals.size r.o = true := fun i r hr => by
      have := (rowsOf_get hr).2.1
      exact List.all_eq_true.1 hok r.o (by rw [← Array.getElem?_toList] at this; exact List.mem_of_getElem? this)
    have hnd' : ro ≠ none → ∀ (i : Nat) (r : Row), (rowsOf ops)[i]? = some r → notDefer r.o.op = true := fun hro i r hr => by
      have := (rowsOf_get hr).2.1
      exact List.all_eq_true.1 (hnd hro) r.o (by rw [← Array.getElem?_toList] at this; exact List.mem_of_getElem? this)
    have hd2 := hd.2
    split at hd2
    · rename_i dEnd hst
      refine wpIn_region_any hM ?_
      have I : Inv P ops (rowsOf ops) ρ s w N n fr a 0 (fun _ => .bad) (fun _ => none) [] fr s ρ (Array.replicate ops.size false) a { w with drawn := w.drawn + 1 } := by
        have hrep : ∀ i, (Array.replicate ops.size false).getD i false = false := fun i => by
          simp only [Array.getD_eq_getD_getElem?, Array.getElem?_replicate]
          split <;> rfl
        have hno : ∀ {i : Nat} {Q : Prop}, (Array.replicate ops.size false).getD i false = true → Q := fun {i Q} hi => by rw [hrep i] at hi; cases hi
        have hz : ∀ {i : Nat} {Q : Prop}, Nat.testBit 0 i = true → Q := fun {i Q} hi => by simp at hi
        exact {
          lsz := by simp
          LX := fun i hi => hno hi
          down := fun i r j _ hi => hno hi
          XR := fun i hi => hz hi
          downX := fun i r j _ hi => hz hi
          env := fun t ht => .inr ⟨fun i r _ hi => hz hi, rfl⟩
          real := fun i r t _ hi => hno hi
          rest := fun t _ => rfl
          size := hF.size
          dfr := hF.dfr
          pend := fun i r _ hi => hz hi
          nbne := fun i j b hi => by cases hi
          nblt := fun j b hj => by cases hj
          rel := H.drawn _
          ext := Ext.refl ρ s
          below := Below.drawn _ }
      obtain ⟨sv', nb', ps', fr1, s1, I1, hp1, hk1⟩ := stage_sound F 0 _ _ _ _ _ _ _ _ dEnd hmem0 hst h I
      refine draw_sound hP hC F hF.env hG hok' hnd' _ dEnd sv' nb' ps' fr1 s1 hmem hd2 hk1 hp1 ops.size ρ _ a _ I1 ?_
      unfold todo
      have := List.countP_le_length (p := fun i => !((Array.replicate ops.size false).getD i false)) (l := List.range ops.size)
      simpa using this
    · cases hd2
end Go.Sh
