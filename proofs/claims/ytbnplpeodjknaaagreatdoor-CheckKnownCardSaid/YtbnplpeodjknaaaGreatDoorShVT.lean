/- Part of a proof that a closed law answers true: the evaluator of the first text is sound; this text is one step of it. No condition. -/
import Derived.Test.YtbnplpeodjknaaaGreatDoorShVS
set_option linter.unusedSectionVars false
set_option linter.unusedSimpArgs false
set_option linter.unusedVariables false
namespace Go.Sh
variable [Opq]
open Go.RowKit (Below)
variable {I : Rho → World → Prop}
variable {P : Program} {E : EE} {callF : CallF}
variable {ops : Array Oper} {rows : List Row} {ρ0 : Rho} {s0 : St} {w0 : World} {N : Bound I} {n : Nat} {fr0 : Fr} {a0 : Act}
variable {d : Nat} {sv : Nat → SV} {nb : Nat → Option Nat} {ps : List Pend} {ms : List Nat} {fr : Fr} {s : St} {ρ : Rho} {L : Array Bool} {a : Act} {w : World}

theorem eqT_strs {h : Hp} {kt : TypeId} (hk : P.underlying kt = some .string) (l m a b : Nat) : eqT E P h 3 kt (.str l m) (.str a b) = some (eqStr l m a b) := by
  simp only [eqT, hk]
theorem keyOk_str {h : Hp} {kt : TypeId} (hk : P.underlying kt = some .string) (l m : Nat) : keyOk E P h kt (.str l m) = true := by
  unfold keyOk
  have h1 : sameKey (.str l m) (.str l m) = true := by
    show eqStr l m l m = true
    exact eqStr_iff.2 ⟨rfl, rfl⟩
  rw [h1, cond_true, eqT_strs hk, eqStr_iff.2 ⟨rfl, rfl⟩]
/-- the run does a row that was pending -/
theorem pendingQ_step {ro : Option Nat} (hP : PH P E) (F : RF ops rows) (J : InvQ P ops rows ρ0 s0 w0 N n fr0 a0 d sv nb ps ms fr s ρ L a w) (h0 : EnvR ρ0 fr0.env a0) (hG : Glob P.globals.size ρ0) (hok : ∀ (i : Nat) (r : Row), rows[i]? = some r → operOk n P.globals.size r.o = true) (hnd : ro ≠ none → ∀ (i : Nat) (r : Row), rows[i]? = some r → notDefer r.o.op = true) (hps : pendOk E P s ps = true)
    {i : Nat} (hi : i ∈ Region.ready .any ops L) (hdi : d.testBit i = true) {Q : Exit → Act → World → Prop} {K : Act → World → Prop}
    (hK : ∀ ρ' a' w', InvQ P ops rows ρ0 s0 w0 N n fr0 a0 d sv nb ps ms fr s ρ' (L.setIfInBounds i true) a' w' → K a' w') : wpOpIn (Wd ro) 0 P ops Q i K a w := by
  obtain ⟨r0, hr0, _, hLi, hlt, hbe0⟩ := ready_before F J.inv hi
  refine pending_step hP F J.inv h0 hG hok hnd hps hi hdi ?_ ?_
  · -- a filling
    rintro r σ hr _ _ hbe hopd hdst hk hsv ⟨t, tm, k, v, kt, et, b, l, m, es, g1, g2, g3, g4, g5, g6, g7, g8, g9⟩
    have hin : ∀ x ∈ r.o.op.operands, OR ρ σ a.eval x := hopd
    rw [g1] at hin
    have hm := hin (.tmp tm) (by simp [Op.operands]) (by show σ.get tm ≠ .bad; rw [g4]; simp)
    have hm' : VR ρ (.mp b) (a.eval (.tmp tm)) := by rw [← g4]; exact hm
    simp only [VR] at hm'
    obtain ⟨q, base, e, hb, hvm⟩ := hm'
    have hkv : VR ρ (.str l m) (a.eval k) := by rw [← g5]; exact hin k (by simp [Op.operands]) (by rw [g5]; simp)
    have hvv : VR ρ (evO v σ) (a.eval v) := hin v (by simp [Op.operands]) g6
    obtain ⟨q1, q2, es1, q3, q4, q5, q6, ⟨j, q7, tm', ⟨qr, qt, q8, q9, q10⟩, q11⟩, q12⟩ := J.mq b g7
    rw [g8] at q3; cases q3
    obtain ⟨es', clock, l0, p1, p2, p3⟩ := q12 q base e hb
    -- not in it yet
    have hmem : ∀ x ∈ l0, ∃ y ∈ es, L.getD y.1 false = true ∧ x.1 = .str y.2.1 y.2.2.1 := fun x hx => by
      have := p3.mem_iff.1 (List.mem_map.2 ⟨x, hx, rfl⟩)
      obtain ⟨y, hy, he⟩ := List.mem_map.1 this
      rw [Prod.mk.injEq] at he
      obtain ⟨hy1, hy2⟩ := List.mem_filter.1 hy
      exact ⟨y, hy1, hy2, he.1.symm⟩
    have hf : keyFind (eqT E P s.h 3 kt) (.str l m) l0 0 = some none := by
      rcases keyFind_str (eqT_strs (E := E) (h := s.h) g3 l m) l0 0 (fun x hx => by obtain ⟨y, _, _, h⟩ := hmem x hx; exact ⟨_, _, h⟩) with ⟨h1, _⟩ | ⟨j', v', b', _, h2⟩
      · exact h1
      · exfalso
        obtain ⟨y, hy, hLy, hye⟩ := hmem _ h2
        simp only [SV.str.injEq] at hye
        have := nodup_val q6 _ hy _ g9 (by rw [Prod.mk.injEq]; exact ⟨hye.1.symm, hye.2.symm⟩)
        subst this
        rw [hLi] at hLy; cases hLy
    obtain ⟨hc, rr, hrr, hfr⟩ := lookup_core hP.eok J.inv.rel (fun _ => hkv) (keyOk_str g3 l m) p2 hf
    have hrn : rr = none := hfr
    subst hrn
    have hwr : writable (s.h.get b) = true := by rw [g8]; rfl
    have hgo := run_getObj (P := P) w q _ p1 (by simp)
    have hso := fun o => run_setObj (P := P) w q o _ p1 (by simp)
    have hN := J.inv.rel.low _ _ _ _ hb hwr
    refine ⟨putB w q (.map (es'.push { key := a.eval k, val := a.eval v, born := clock }) (clock + 1)), ?_, ?_⟩
    · revert g1
      generalize r.o = o
      intro g1
      obtain ⟨d', op, ty, pos, af, gd⟩ := o
      simp only at g1
      subst g1
      simp only [execOp]
      apply run_u
      simp only [Instr.mapUpdate, Sem.run_bind, run_underlying g2, Result.andThen_ok, hvm, hgo, hc, hrr, hso]
    · have hrel : Rel ρ N s (putB w q (.map (es'.push { key := a.eval k, val := a.eval v, born := clock }) (clock + 1))) := J.inv.rel.poke hb hwr (by rw [g8]; simp [BR])
      refine hK ρ _ _ ⟨inv_do F J.inv hr hdi hLi hlt hbe hdst (by rw [hsv]; exact vrUndef) (Rho.le_refl ρ) hrel J.inv.ext (J.inv.below.trans (Below.putB hN)) (fun _ _ _ _ h => h), J.mnd, fun b' hb' => ?_, J.kq⟩
      have hqlt := J.inv.rel.bound _ _ _ _ hb
      by_cases hbb : b' = b
      · subst hbb
        refine ⟨q1, q2, es, g8, q4, q5, q6, ⟨j, q7, tm', ⟨qr, qt, q8, q9, q10⟩, q11⟩, fun q' base' e' hb'' => ?_⟩
        rw [hb] at hb''; cases hb''
        refine ⟨_, _, l0 ++ [(SV.str l m, evO v σ, clock)], by rw [putB_get _ _ _ hqlt, if_pos rfl], ?_, ?_⟩
        · rw [Array.toList_push]
          exact ER.append p2 hkv hvv rfl
        · rw [List.map_append]
          refine (List.perm_append_singleton _ _).trans ?_
          refine (List.Perm.cons _ p3).trans ?_
          exact ((filter_take hlt hLi q5 g9).map fun x : Nat × Nat × Nat × SV => (SV.str x.2.1 x.2.2.1, x.2.2.2)).symm
      · obtain ⟨k1, k2, es2, k3, k4, k5, k6, ⟨j2, k7, tm2, ⟨qr2, qt2, k8, k9, k10⟩, k11⟩, k12⟩ := J.mq b' hb'
        refine ⟨k1, k2, es2, k3, k4, k5, k6, ⟨j2, k7, tm2, ⟨qr2, qt2, k8, k9, k10⟩, k11⟩, fun q' base' e' hb'' => ?_⟩
        obtain ⟨es3, clock3, l3, m1, m2, m3⟩ := k12 q' base' e' hb''
        have hqq : q' ≠ q := fun e => by
          subst e
          exact hbb (J.inv.rel.inj _ _ _ _ _ _ _ hb'' hb (by rw [k3]; rfl) (by rw [g8]; rfl))
        refine ⟨es3, clock3, l3, by rw [putB_get _ _ _ hqlt, if_neg hqq]; exact m1, m2, ?_⟩
        rw [filter_set hlt fun x hx e => ?_]
        · exact m3
        · obtain ⟨r2, n1, ⟨_, _, t2, kk2, v2, n2⟩, _, _⟩ := k11 x hx
          rw [e, hr] at n1; cases n1
          obtain ⟨r3, o1, ⟨_, _, t3, kk3, v3, o2⟩, _, _⟩ := q11 _ g9
          rw [hr] at o1; cases o1
          rw [g1] at n2 o2
          simp only [Op.insert.injEq, Operand.tmp.injEq] at n2 o2
          have htt : tm2 = tm' := n2.2.1.symm.trans o2.2.1
          by_cases hjj : j2 = j
          · subst hjj
            rw [k7] at q7
            cases q7
            exact hbb rfl
          · rw [htt] at k10
            exact F.uniq j2 qr2 j qr tm' k8 q8 (fun e => hjj e.symm) q10 k10
  · -- the others
    intro ρ' a' w' J' hor
    refine hK ρ' a' w' ⟨J', J.mnd, fun b hb => ?_, J.kq⟩
    obtain ⟨k1, k2, es2, k3, k4, k5, k6, ⟨j2, k7, tm2, ⟨qr2, qt2, k8, k9, k10⟩, k11⟩, k12⟩ := J.mq b hb
    refine ⟨k1, k2, es2, k3, k4, k5, k6, ⟨j2, k7, tm2, ⟨qr2, qt2, k8, k9, k10⟩, k11⟩, fun q base e hb' => ?_⟩
    have hxi : (∀ r, rows[i]? = some r → ¬ (kindOp r.o.op = 3 ∧ r.o.guard = none)) → ∀ x ∈ es2, x.1 ≠ i := fun h x hx e => by
      obtain ⟨r2, n1, ⟨n2, n3, _⟩, _, _⟩ := k11 x hx
      rw [e] at n1
      exact h r2 n1 ⟨n2, n3⟩
    rcases hor with ⟨rfl, rfl, hno⟩ | ⟨r, b1, e1, o, mk, blk, σ, hr, hk1, hnb1, hn1, hmk, hB, rfl, rfl⟩
    · rw [filter_set hlt (hxi fun r hr h => by rcases hno r hr with h1 | h1; rw [h1] at h; cases h.1; exact h1 h.2)]
      exact k12 q base e hb'
    · have hx := hxi fun r' hr' h => by rw [hr] at hr'; cases hr'; rw [hk1] at h; cases h.1
      by_cases hbb : b = b1
      · subst hbb
        rw [Rho.add_self] at hb'
        cases hb'
        have hij := J.inv.nbne j2 i b k7 hnb1
        subst hij
        rw [k8] at hr; cases hr
        rw [k9] at hmk
        simp only [mkA, mkMap, Option.some.injEq, Prod.mk.injEq] at hmk
        obtain ⟨rfl, rfl⟩ := hmk
        obtain ⟨es', ho, her⟩ := hB
        cases ho
        refine ⟨es', 0, [], by rw [newB_get, if_pos rfl], her, ?_⟩
        rw [filter_set hlt hx, filter_none fun x hx' => ?_]
        · simp
        · cases hL : L.getD x.1 false with
          | false => rfl
          | true =>
            obtain ⟨r2, n1, _, n3, _⟩ := k11 x hx'
            have := J.inv.down x.1 r2 j2 n1 hL n3
            rw [hLi] at this; cases this
      · rw [Rho.add_ne _ _ hbb] at hb'
        obtain ⟨es3, clock3, l3, m1, m2, m3⟩ := k12 q base e hb'
        have := J.inv.rel.bound _ _ _ _ hb'
        refine ⟨es3, clock3, l3, by rw [newB_get, if_neg (by omega)]; exact m1, m2.mono (Rho.le_add hn1), ?_⟩
        rw [filter_set hlt hx]
        exact m3
end Go.Sh
