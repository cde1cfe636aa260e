/- Part of a proof that a closed law answers true: the evaluator of the first text is sound; this text is one step of it. No condition. -/
import Derived.Test.YtbnplpeodjknaaaGreatDoorShVT
set_option linter.unusedSectionVars false
set_option linter.unusedSimpArgs false
set_option linter.unusedVariables false
namespace Go.Sh
variable [Opq]
open Go.RowKit (Below)
variable {I : Rho → World → Prop}
variable {P : Program} {E : EE} {callF : CallF}
variable {ops : Array Oper} {rows : List Row} {ρ0 : Rho} {s0 : St} {w0 : World} {N : Bound I} {n : Nat} {fr0 : Fr} {a0 : Act}
variable {d : Nat} {sv : Nat → SV} {nb : Nat → Option Nat} {ps : List Pend} {ms : List Nat} {fr : Fr} {s : St} {ρ : Rho} {L : Array Bool} {a : Act} {w : World}

/-! ## the maps are full -/
theorem seal_rel : ∀ (ms : List Nat) (s : St), ms.Nodup → (∀ b ∈ ms, s0.nx ≤ b ∧ ∃ es, s.h.get b = .mapp es ∧ ∀ q base e, ρ b = some (q, base, e) → BR ρ base e (sealB (.mapp es)) w.heap[q]?) → Rel ρ N s w → Ext ρ0 s0 ρ s →
    Rel ρ N (sealAll ms s) w ∧ Ext ρ0 s0 ρ (sealAll ms s) ∧ (sealAll ms s).nx = s.nx ∧ ∀ b, b ∉ ms → (sealAll ms s).h.get b = s.h.get b
  | [], s, _, _, H, hE => ⟨H, hE, rfl, fun _ _ => rfl⟩
  | b :: bs, s, hnd, hb, H, hE => by
    obtain ⟨h1, h2⟩ := List.nodup_cons.1 hnd
    obtain ⟨g1, es, g2, g3⟩ := hb b List.mem_cons_self
    have H' : Rel ρ N (s.withH (s.h.set b (sealB (s.h.get b)))) w := H.reblk (fun q base e hq => by rw [g2]; exact g3 q base e hq) (fun h => by rw [g2] at h; simp [sealB, writable] at h) (fun _ => by rw [g2]; rfl)
    have hne : ∀ b', b' ≠ b → (s.withH (s.h.set b (sealB (s.h.get b)))).h.get b' = s.h.get b' := fun b' h => Hp.get_set_ne _ _ _ _ h
    obtain ⟨k1, k2, k3, k4⟩ := seal_rel bs (s.withH (s.h.set b (sealB (s.h.get b)))) h2 (fun b' hb' => by
      obtain ⟨e1, es', e2, e3⟩ := hb b' (List.mem_cons_of_mem _ hb')
      exact ⟨e1, es', (hne b' (fun e => h1 (e ▸ hb'))).trans e2, e3⟩) H' (Ext.reblk hE g1 _)
    exact ⟨k1, k2, k3, fun b' hb' => (k4 b' (fun h => hb' (List.mem_cons_of_mem _ h))).trans (hne b' (fun e => hb' (e ▸ List.mem_cons_self)))⟩
theorem seal_inv (J : InvQ P ops rows ρ0 s0 w0 N n fr0 a0 d sv nb ps ms fr s ρ L a w) (hall : ∀ (i : Nat) (r : Row), rows[i]? = some r → kindOp r.o.op = 3 → L.getD i false = true) :
    Inv noPI P ops rows ρ0 s0 w0 N n fr0 a0 d sv nb ps fr (sealAll ms s) ρ L a w := by
  have hms : ∀ b ∈ ms, s0.nx ≤ b ∧ ∃ es, s.h.get b = .mapp es ∧ ∀ q base e, ρ b = some (q, base, e) → BR ρ base e (sealB (.mapp es)) w.heap[q]? := fun b hb => by
    obtain ⟨k1, k2, es, k3, k4, k5, k6, ⟨j, k7, tm, k8, k9⟩, k10⟩ := J.mq b hb
    refine ⟨k1, es, k3, fun q base e hq => ?_⟩
    obtain ⟨es', clock, l, g1, g2, g3⟩ := k10 q base e hq
    have hfl : es.filter (fun x => L.getD x.1 false) = es := by
      rw [List.filter_eq_self]
      intro x hx
      obtain ⟨r, n1, ⟨n2, _⟩, _, _⟩ := k9 x hx
      exact hall x.1 r n1 n2
    rw [hfl] at g3
    refine ⟨es', clock, l, g1, g2, ?_, ?_⟩
    · rw [List.map_map]; exact g3
    · rw [List.map_map]; exact k6
  obtain ⟨k1, k2, k3, k4⟩ := seal_rel ms s J.mnd hms J.inv.rel J.inv.ext
  exact { J.inv with
    nblt := fun j b hj => (by rw [k3]; exact J.inv.nblt j b hj)
    rel := k1
    ext := k2
    pend := fun i r hr hd hL => (by
      obtain ⟨σ, h1, h2⟩ := J.inv.pend i r hr hd hL
      refine ⟨σ, h1, ?_⟩
      rcases h2 with h2 | h2 | ⟨g1, g2, mk, blk, b, g3, g4, g5, g6, g7, g8⟩ | ⟨g1, g2, g3, g4⟩
      · exact .inl h2
      · exact .inr (.inl h2)
      · refine .inr (.inr (.inl ⟨g1, g2, mk, blk, b, g3, g4, g5, g6, g7, ?_⟩))
        by_cases hb : b ∈ ms
        · exfalso
          obtain ⟨q1, q2, es, q3, q4, q5, q6, ⟨j, q7, tm, q8, q9⟩, q10⟩ := J.mq b hb
          have hji := J.inv.nbne j i b q7 g4
          subst hji
          cases es with
          | nil => exact q4 rfl
          | cons x xs =>
            obtain ⟨r2, n1, ⟨n2, _⟩, n3, _⟩ := q9 x List.mem_cons_self
            have := J.inv.down x.1 r2 j n1 (hall x.1 r2 n1 n2) n3
            rw [hL] at this; cases this
        · rw [k4 b hb]; exact g8
      · have := hall i r hr g2
        rw [hL] at this; cases this) }
theorem insOf_bit : ∀ (rs : List Row) (r : Row), r ∈ rs → isIns r = true → (insOf rs).testBit r.i = true
  | [], r, h, _ => by cases h
  | q :: rs, r, h, hi => by
    simp only [insOf]
    rcases List.mem_cons.1 h with rfl | h
    · rw [hi, cond_true]; exact (bit_or _ _ _).2 (.inr rfl)
    · have := insOf_bit rs r h hi
      cases hq : isIns q with
      | true => rw [cond_true]; exact (bit_or _ _ _).2 (.inl this)
      | false => rw [cond_false]; exact this

/-- **A region that makes maps, fills them in an open order, and draws its order.** -/
theorem drawQ_sound {ro : Option Nat} (hP : PH P E) (hC : CallSound I P callF) (F : RF ops rows) (h0 : EnvR ρ0 fr0.env a0) (hG : Glob P.globals.size ρ0) (hok : ∀ (i : Nat) (r : Row), rows[i]? = some r → operOk n P.globals.size r.o = true) (hnd : ro ≠ none → ∀ (i : Nat) (r : Row), rows[i]? = some r → notDefer r.o.op = true) {kN : KN} {kX : KX} {ins : Nat}
    (hmask : ∀ (i : Nat) (r : Row), rows[i]? = some r → kindOp r.o.op = 3 → ins.testBit i = true) :
    ∀ (more : Sched) (d : Nat) (sv : Nat → SV) (nb : Nat → Option Nat) (ps : List Pend) (ms : List Nat) (fr : Fr) (s : St), (∀ q ∈ more, rows[q.1.i]? = some q.1 ∧ ∀ r ∈ q.2, rows[r.i]? = some r) → schedOk (2 ^ rows.length - 1) more d = true →
      evDrawQ E P callF ops rows ins s0.nx more fr s ps ms kN (fun x fr' s => kX x ⟨wipe fr0.env rows, fr'.ds⟩ s) = true → pendOk E P s ps = true →
      ∀ (fuel : Nat) (ρ : Rho) (L : Array Bool) (a : Act) (w : World), InvQ P ops rows ρ0 s0 w0 N n fr0 a0 d sv nb ps ms fr s ρ L a w → todo ops.size L ≤ fuel → wpAnyIn (Wd ro) 0 P .any ops (QC ρ0 s0 w0 N n kN kX) fuel L a w := by
  intro more
  induction more with
  | nil =>
    intro d sv nb ps ms fr s hmem hsch hev hps fuel
    simp only [evDrawQ] at hev
    have fin : ∀ (ρ : Rho) (L : Array Bool) (a : Act) (w : World), InvQ P ops rows ρ0 s0 w0 N n fr0 a0 d sv nb ps ms fr s ρ L a w → Region.ready .any ops L = [] → QC ρ0 s0 w0 N n kN kX .normal a w := fun ρ L a w J hr => by
      have hall := all_listed F J.inv.lsz hr
      have I' := seal_inv J fun i r hr' _ => hall i (by rw [← F.len]; exact (List.getElem?_eq_some_iff.1 hr').1)
      exact ⟨ρ, fr, _, final_env F I' h0 hall, I'.rel, I'.ext, I'.below, hev⟩
    induction fuel with
    | zero =>
      intro ρ L a w J htodo
      have hr : Region.ready .any ops L = [] := by
        rw [List.eq_nil_iff_forall_not_mem]
        intro i hi
        obtain ⟨r, hr, ho, hLi, hlt, _⟩ := ready_before F J.inv hi
        have := todo_set (m := ops.size) (by rw [← J.inv.lsz]; exact hlt) hlt hLi
        omega
      exact ⟨hr, fin ρ L a w J hr⟩
    | succ fuel ih =>
      intro ρ L a w J htodo
      refine ⟨fin ρ L a w J, fun i hi => ?_⟩
      obtain ⟨r, hr, ho, hLi, hlt, hbe⟩ := ready_before F J.inv hi
      have hlt' := todo_set (m := ops.size) (by rw [← J.inv.lsz]; exact hlt) hlt hLi
      cases hdi : d.testBit i with
      | true => exact pendingQ_step hP F J h0 hG hok hnd hps hi hdi fun ρ' a' w' J' => ih ρ' _ a' w' J' (by omega)
      | false =>
        exfalso
        simp only [schedOk] at hsch
        have := Nat.eq_of_beq_eq_true hsch
        subst this
        rw [Nat.testBit_two_pow_sub_one, decide_eq_false_iff_not] at hdi
        exact hdi (List.getElem?_eq_some_iff.1 hr).1
  | cons hd more ihm =>
    obtain ⟨e, st⟩ := hd
    intro d sv nb ps ms fr s hmem hsch hev hps fuel
    have hsch0 := hsch
    obtain ⟨he, hst⟩ := hmem (e, st) (by simp)
    simp only [schedOk] at hsch
    cases hc : (!(d.testBit e.i) && Nat.beq (e.before ||| d) d && laterOk e more) with
    | false => rw [hc] at hsch; simp at hsch
    | true =>
      rw [hc, cond_true] at hsch
      simp only [Bool.and_eq_true, Bool.not_eq_true'] at hc
      obtain ⟨⟨c1, c2⟩, c3⟩ := hc
      split at hsch
      · rename_i d' hstage
        induction fuel with
        | zero =>
          intro ρ L a w J htodo
          exfalso
          have hlt : e.i < ops.size := by rw [← F.len]; exact (List.getElem?_eq_some_iff.1 he).1
          have hLf : L.getD e.i false = false := by
            cases hb : L.getD e.i false with
            | false => rfl
            | true => have := J.inv.LX e.i hb; rw [c1] at this; cases this
          have := todo_set (m := ops.size) hlt (by rw [J.inv.lsz]; exact hlt) hLf
          omega
        | succ fuel ih =>
          intro ρ L a w J htodo
          refine ⟨fun hr => ?_, fun i hi => ?_⟩
          · exfalso
            have hlt : e.i < ops.size := by rw [← F.len]; exact (List.getElem?_eq_some_iff.1 he).1
            have := J.inv.LX e.i (all_listed F J.inv.lsz hr e.i hlt)
            rw [c1] at this; cases this
          · obtain ⟨r, hr, ho, hLi, hlt, hbe⟩ := ready_before F J.inv hi
            have hlt' := todo_set (m := ops.size) (by rw [← J.inv.lsz]; exact hlt) hlt hLi
            cases hdi : d.testBit i with
            | true => exact pendingQ_step hP F J h0 hG hok hnd hps hi hdi fun ρ' a' w' J' => ih ρ' _ a' w' J' (by omega)
            | false =>
              have hie := ready_next F hmem hsch0 hr hdi (fun j hj => J.inv.LX j (hbe j hj))
              subst hie
              rw [he] at hr; cases hr
              simp only [evDrawQ] at hev
              cases hloud : Nat.beq (ins ||| e.before) e.before with
              | true =>
                rw [hloud, cond_true] at hev
                cases hpo : pendOk E P (sealAll ms s) ps with
                | false => rw [hpo] at hev; simp [failB] at hev
                | true =>
                  rw [hpo, cond_true] at hev
                  have I' := seal_inv J fun i' r' hr' hk' => hbe i' (sub_of_or hloud i' (hmask i' r' hr' hk'))
                  exact (draw_sound hP hC F h0 hG hok hnd ((e, st) :: more) d sv nb ps fr (sealAll ms s) hmem hsch0 hev hpo (fuel + 1) ρ L a w I' htodo).2 e.i hi
              | false =>
                rw [hloud, cond_false] at hev
                have hbd : ∀ j, e.before.testBit j = true → d.testBit j = true := fun j hj => J.inv.LX j (hbe j hj)
                have hop := hok e.i e he
                unfold operOk at hop
                rw [Bool.and_eq_true] at hop
                have hσ := opEnv_now F J.inv he hdi hbd
                have hreal := real_of J.inv h0 he hLi hbe hσ
                have hG' := hG.mono J.inv.ext.le
                have hopd := opd_of hG' hop.2 hreal
                unfold wpOpIn
                simp only [ho]
                split at hev
                · rename_i hw
                  rw [wanted_sound hw hreal]
                  simp only [if_true]
                  have hs := exec_sound hP.eok J.inv.rel e.o hopd
                  split at hev
                  · rename_i f args s' hex
                    rw [hex] at hs
                    obtain ⟨rfl, args', hva, hres⟩ := hs
                    -- what follows the call
                    have go : ∀ (ρ' : Rho) (s1 : St) (w' : World) (x : SV) (v : Value), VR ρ' x v → Rel ρ' (tightN N w J.inv.rel.size) s1 w' → Ext ρ (roAll s') ρ' s1 → Below w.heap.size w w' →
                        evStageQ E P ops rows s0.nx st (fr.put e.o.dst x) (mergeNew s' s1) (stillPend e.before ps) ms (fun fr s ps ms => evDrawQ E P callF ops rows ins s0.nx more fr s ps ms kN (fun x fr' s => kX x ⟨wipe fr0.env rows, fr'.ds⟩ s)) = true →
                        wpAnyIn (Wd ro) 0 P .any ops (QC ρ0 s0 w0 N n kN kX) fuel (L.setIfInBounds e.i true) (a.put e.o.dst v) w' := by
                      intro ρ' s1 w' x v q1 q2 q3 q4 q5
                      have hold : ∀ b, b < s'.nx → (mergeNew s' s1).h.get b = s'.h.get b := fun b hb => merge_old hb
                      have I' := inv_act F J.inv he hdi hlt hbe hop.1 q1 (J.inv.rel.merge q2 q3 q4) (Ext.merge q3) (q4.mono J.inv.rel.size) (QI.keep fun b hb => hold b (J.mq b hb).2.1) (fr' := fr.put e.o.dst x) (a' := a.put e.o.dst v) rfl rfl (by rw [put_defers']; exact J.inv.dfr.mono q3.le)
                      have hke : kindOp e.o.op ≠ 3 := fun h => by
                        obtain ⟨t, m, k, v', h'⟩ := kind3_op h
                        rw [h'] at hex
                        simp only [exec, exMapUpdate] at hex
                        split at hex
                        · cases hex
                        · unfold mapPut at hex
                          split at hex
                          · rename_i kt e' b' _ _
                            cases hk : keyOk E P s'.h kt (evO k fr.env) with
                            | false => rw [hk] at hex; cases hex
                            | true =>
                              rw [hk, cond_true] at hex
                              split at hex
                              · split at hex
                                · rename_i k' _
                                  cases hs : sameKey k' (evO k fr.env) <;> rw [hs] at hex <;> cases hex
                                · cases hex
                                · cases hex
                              · cases hex
                          · cases hex
                      have hmk : isMk e.o.op ≠ true := fun h => by
                        obtain ⟨t, h'⟩ := isMk_op h
                        rw [h'] at hex
                        simp only [exec, exNew, newR] at hex
                        split at hex <;> cases hex
                      have J' : InvQ P ops rows ρ0 s0 w0 N n fr0 a0 (d ||| 2 ^ e.i) (upd sv e.i x) nb (stillPend e.before ps) ms (fr.put e.o.dst x) (mergeNew s' s1) ρ' (L.setIfInBounds e.i true) (a.put e.o.dst v) w' := by
                        refine ⟨I', J.mnd, fun b hb => ?_, fun j q hq hmk' hdj b hb => ?_⟩
                        · obtain ⟨k1, k2, es2, k3, k4, k5, k6, ⟨j2, k7, tm2, k8, k11⟩, k12⟩ := J.mq b hb
                          refine ⟨k1, Nat.lt_of_lt_of_le k2 q3.nx, es2, (hold b k2).trans k3, k4, k5, k6, ⟨j2, k7, tm2, k8, fun x hx => let ⟨r, n1, n2, n3, n4⟩ := k11 x hx; ⟨r, n1, n2, n3, (bit_or d e.i _).2 (.inl n4)⟩⟩, fun q base e' hb' => ?_⟩
                          have hρ : ρ b = some (q, base, e') := by
                            cases hr : ρ b with
                            | none => have := (q3.keep b k2 hr).1; rw [this] at hb'; cases hb'
                            | some y => have := q3.le b y hr; rw [this] at hb'; exact hb'
                          obtain ⟨es3, clock3, l3, m1, m2, m3⟩ := k12 q base e' hρ
                          refine ⟨es3, clock3, l3, by rw [q4.block q (J.inv.rel.bound _ _ _ _ hρ)]; exact m1, m2.mono q3.le, ?_⟩
                          rw [filter_set hlt fun x hx e' => ?_]
                          · exact m3
                          · obtain ⟨r, n1, n2, _, _⟩ := k11 x hx
                            rw [e', he] at n1; cases n1
                            exact hke n2.1
                        · have hne : j ≠ e.i := fun h => by subst h; rw [he] at hq; cases hq; exact hmk hmk'
                          rw [upd_ne _ _ hne] at hb
                          rcases (bit_or d e.i j).1 hdj with h | h
                          · exact J.kq j q hq hmk' h b hb
                          · exact absurd h hne
                      obtain ⟨sv', nb', ps', ms', fr1, s2, J1, hp1, hk1⟩ := stageQ_sound F (2 ^ e.i) _ st _ _ _ _ _ _ _ d' hst hstage q5 J'
                      exact ihm d' sv' nb' ps' ms' fr1 s2 (fun q hq => hmem q (by simp [hq])) hsch hk1 hp1 fuel ρ' _ _ w' J1 (by omega)
                    refine ⟨fun _ _ => trivial, ?_⟩
                    rw [semAt_eq (fun h => hnd h e.i e he), hres]
                    rcases hC.f f args (roAll s') _ _ hev ρ (tightN N w J.inv.rel.size) w args' J.inv.rel.toRo hG' hva with ⟨h2, h3⟩ | ⟨v, w', h2, ρ', s1, x, h3, h4, h5, h6, h7⟩
                    · rw [h2, Oper.uponIn_enter]
                      refine ⟨(fun h => by cases h), Wd.callsIn (Calls.mono h3 fun e1 w' he1 => ?_)⟩
                      cases e1 with
                      | returned v =>
                        obtain ⟨ρ', s1, x, q1, q2, q3, q4, q5⟩ := he1
                        exact go ρ' s1 w' x v q1 q2 q3 q4 q5
                      | panicked chain =>
                        obtain ⟨ρ', s1, x, v, rfl, q1, q2, q3, q4, q5⟩ := he1
                        simp [failB] at q5
                      | outgrown => exact he1.elim
                    · rw [h2, Oper.uponIn_value]
                      exact go ρ' s1 w' x v h3 h4 h5 h6 h7
                  · simp [failB] at hev
                · simp [failB] at hev
      · cases hsch
end Go.Sh
