/- Part of a proof that a closed law answers true: the evaluator of the first text is sound; this text is one step of it. No condition. -/
import Derived.Test.YtbnplpeodjknaaaGreatDoorShVQ
set_option linter.unusedSectionVars false
set_option linter.unusedSimpArgs false
set_option linter.unusedVariables false
namespace Go.Sh
variable [Opq]
open Go.RowKit (Below)
variable {I : Rho → World → Prop}
variable {P : Program} {E : EE} {callF : CallF}
variable {ops : Array Oper} {rows : List Row} {ρ0 : Rho} {s0 : St} {w0 : World} {N : Bound I} {n : Nat} {fr0 : Fr} {a0 : Act}

/-! ## maps that are being filled -/
/-- a filling that the shadow has done -/
def QI (P : Program) (ms : List Nat) : St → Nat → Oper → En → Prop := fun s i o σ => ∃ (t : TypeId) (tm : Tmp) (k v : Operand) (kt et : TypeId) (b l m : Nat) (es : List (Nat × Nat × Nat × SV)),
  o.op = .insert t (.tmp tm) k v ∧ P.underlying t = some (.map kt et) ∧ P.underlying kt = some .string ∧ σ.get tm = .mp b ∧ evO k σ = .str l m ∧ evO v σ ≠ .bad ∧ b ∈ ms ∧ s.h.get b = .mapp es ∧ (i, l, m, evO v σ) ∈ es
/-- the map of which a name speaks: what of it is in is what the run has done -/
def MB (rows : List Row) (s0 : St) (nb : Nat → Option Nat) (d : Nat) (s : St) (ρ : Rho) (L : Array Bool) (w : World) (b : Nat) : Prop :=
  s0.nx ≤ b ∧ b < s.nx ∧ ∃ es, s.h.get b = .mapp es ∧ es ≠ [] ∧ (es.map (·.1)).Nodup ∧ (es.map fun x => (x.2.1, x.2.2.1)).Nodup ∧
    (∃ j, nb j = some b ∧ ∃ tm, (∃ q t, rows[j]? = some q ∧ q.o.op = .makeMap t none ∧ q.o.dst = some tm) ∧ ∀ x ∈ es, ∃ r, rows[x.1]? = some r ∧ (kindOp r.o.op = 3 ∧ r.o.guard = none ∧ ∃ t k v, r.o.op = .insert t (.tmp tm) k v) ∧ r.before.testBit j = true ∧ d.testBit x.1 = true) ∧
    ∀ q base e, ρ b = some (q, base, e) → ∃ (es' : Array MapEntry) (clock : Nat) (l : List (SV × SV × Nat)), w.heap[q]? = some (.map es' clock) ∧ ER ρ l es'.toList ∧
      (l.map fun y => (y.1, y.2.1)).Perm ((es.filter fun x => L.getD x.1 false).map fun x => (SV.str x.2.1 x.2.2.1, x.2.2.2))
structure InvQ (P : Program) (ops : Array Oper) (rows : List Row) (ρ0 : Rho) (s0 : St) (w0 : World) (N : Bound I) (n : Nat) (fr0 : Fr) (a0 : Act) (d : Nat) (sv : Nat → SV) (nb : Nat → Option Nat) (ps : List Pend) (ms : List Nat) (fr : Fr) (s : St) (ρ : Rho) (L : Array Bool) (a : Act) (w : World) : Prop where
  inv : Inv (QI P ms) P ops rows ρ0 s0 w0 N n fr0 a0 d sv nb ps fr s ρ L a w
  mnd : ms.Nodup
  mq : ∀ b ∈ ms, MB rows s0 nb d s ρ L w b
  kq : ∀ (j : Nat) (q : Row), rows[j]? = some q → isMk q.o.op = true → d.testBit j = true → ∀ b, sv j = .mp b → nb j = some b

theorem Inv.monoPI {PI PI' : St → Nat → Oper → En → Prop} {d : Nat} {sv : Nat → SV} {nb : Nat → Option Nat} {ps : List Pend} {fr : Fr} {s : St} {ρ : Rho} {L : Array Bool} {a : Act} {w : World} (J : Inv PI P ops rows ρ0 s0 w0 N n fr0 a0 d sv nb ps fr s ρ L a w) (h : ∀ i r σ, rows[i]? = some r → L.getD i false = false → kindOp r.o.op = 3 → PI s i r.o σ → PI' s i r.o σ) : Inv PI' P ops rows ρ0 s0 w0 N n fr0 a0 d sv nb ps fr s ρ L a w :=
  { J with pend := fun i r hr hd hL => (by
      obtain ⟨σ, h1, h2⟩ := J.pend i r hr hd hL
      refine ⟨σ, h1, ?_⟩
      rcases h2 with h2 | h2 | h2 | ⟨g1, g2, g3, g4⟩
      · exact .inl h2
      · exact .inr (.inl h2)
      · exact .inr (.inr (.inl h2))
      · exact .inr (.inr (.inr ⟨g1, g2, g3, h i r σ hr hL g2 g4⟩))) }
theorem isMk_op {op : Op} (h : isMk op = true) : ∃ t, op = .makeMap t none := by
  cases op <;> simp [isMk] at h
  rename_i t r
  cases r with
  | none => exact ⟨t, rfl⟩
  | some _ => simp at h
theorem isMk_kind {op : Op} (h : isMk op = true) : kindOp op = 1 := by
  obtain ⟨t, rfl⟩ := isMk_op h; rfl
theorem memN_iff {b : Nat} {l : List Nat} : memN b l = true ↔ b ∈ l := by
  unfold memN
  rw [List.any_eq_true]
  exact ⟨fun ⟨x, hx, h⟩ => by rw [Nat.eq_of_beq_eq_true h]; exact hx, fun h => ⟨b, h, Nat.beq_refl b⟩⟩
theorem memN_false {b : Nat} {l : List Nat} (h : memN b l = false) : b ∉ l := fun hm => by rw [memN_iff.2 hm] at h; cases h
theorem strT_some {t : TypeId} (h : strT P t = true) : ∃ kt et, P.underlying t = some (.map kt et) ∧ P.underlying kt = some .string := by
  unfold strT at h
  split at h
  · rename_i kt et hu
    split at h
    · rename_i hk; exact ⟨kt, et, hu, hk⟩
    · cases h
  · cases h
theorem notKey_not {l m : Nat} {es : List (Nat × Nat × Nat × SV)} (h : notKey l m es = true) : (l, m) ∉ es.map fun x => (x.2.1, x.2.2.1) := fun hm => by
  obtain ⟨x, hx, he⟩ := List.mem_map.1 hm
  have := List.all_eq_true.1 h x hx
  rw [Prod.mk.injEq] at he
  rw [he.1, he.2, eqStr_iff.2 ⟨rfl, rfl⟩] at this
  cases this
theorem filter_none {es : List (Nat × Nat × Nat × SV)} {L : Array Bool} (h : ∀ x ∈ es, L.getD x.1 false = false) : es.filter (fun x => L.getD x.1 false) = [] := by
  rw [List.filter_eq_nil_iff]
  intro x hx
  rw [h x hx]
  simp

variable {d : Nat} {sv : Nat → SV} {nb : Nat → Option Nat} {ps : List Pend} {ms : List Nat} {fr : Fr} {s : St} {ρ : Rho} {L : Array Bool} {a : Act} {w : World}
/-- what changes about a map that is being filled when the shadow goes on elsewhere -/
theorem MB.keep {nb' : Nat → Option Nat} {d' : Nat} {s' : St} {b : Nat} (h : MB rows s0 nb d s ρ L w b) (hnb : ∀ j, nb j = some b → nb' j = some b) (hd : ∀ i, d.testBit i = true → d'.testBit i = true) (hnx : s.nx ≤ s'.nx) (hg : s'.h.get b = s.h.get b) : MB rows s0 nb' d' s' ρ L w b := by
  obtain ⟨h1, h2, es, h3, h4, h5, h6, ⟨j, h7, tm, h8, h9⟩, h10⟩ := h
  exact ⟨h1, Nat.lt_of_lt_of_le h2 hnx, es, hg.trans h3, h4, h5, h6, ⟨j, hnb j h7, tm, h8, fun x hx => let ⟨r, q1, q2, q3, q4⟩ := h9 x hx; ⟨r, q1, q2, q3, hd _ q4⟩⟩, h10⟩
/-- the shadow fills a map -/
theorem inv_ins (F : RF ops rows) (J : InvQ P ops rows ρ0 s0 w0 N n fr0 a0 d sv nb ps ms fr s ρ L a w) {i : Nat} {r : Row} (hr : rows[i]? = some r) (hri : r.i = i) (hdi : d.testBit i = false) (hbd : ∀ j, r.before.testBit j = true → d.testBit j = true)
    (hw : wantedS r.o.guard ops fr.env = some true) (hk : kindOp r.o.op = 3) {s' : St} {ms' : List Nat} (hp : planIns P rows s0.nx r fr.env s ms = some (s', ms')) :
    InvQ P ops rows ρ0 s0 w0 N n fr0 a0 (d ||| 2 ^ i) (upd sv i (.tup [])) (upd nb i none) ps ms' (fr.put r.o.dst (.tup [])) s' ρ L a w := by
  unfold planIns at hp
  split at hp
  · rename_i t tm k v hop
    cases hc : (strT P t && madeBefore rows tm r.before && !(isBad (evO v fr.env)) && r.o.guard.isNone) with
    | false => rw [hc] at hp; cases hp
    | true =>
      rw [hc, cond_true] at hp
      simp only [Bool.and_eq_true, Bool.not_eq_true'] at hc
      obtain ⟨⟨⟨hst, hmb⟩, hvb⟩, hgn⟩ := hc
      have hgd : r.o.guard = none := by simpa using hgn
      obtain ⟨kt, et, hu, hkt⟩ := strT_some hst
      split at hp
      · rename_i b l m hm hkey
        -- the row that makes the map
        unfold madeBefore at hmb
        obtain ⟨q, hq, hqq⟩ := List.any_eq_true.1 hmb
        simp only [Bool.and_eq_true] at hqq
        obtain ⟨⟨hmk, hdst⟩, hqb⟩ := hqq
        obtain ⟨j, hj⟩ := List.mem_iff_getElem?.1 hq
        have hqi := (F.at' j q hj).1
        rw [hqi] at hqb
        have hqd : q.o.dst = some tm := by
          unfold isTmp at hdst
          split at hdst
          · rename_i d' hd'; rw [hd', Nat.eq_of_beq_eq_true hdst]
          · cases hdst
        have hdj := hbd j hqb
        have hsvj : sv j = .mp b := by
          rcases J.inv.env tm (by rw [hm]; simp) with ⟨i', r', hr', hdi', hd', hv⟩ | ⟨hno, _⟩
          · by_cases e : i' = j
            · subst e; rw [← hv]; exact hm
            · exact absurd hd' (F.uniq i' r' j q tm hr' hj (fun h => e h.symm) hqd)
          · exact absurd hqd (hno j q hj hdj)
        have hnbj := J.kq j q hj hmk hdj b hsvj
        have hji : j ≠ i := fun e => by subst e; rw [hdj] at hdi; cases hdi
        have hLi : L.getD i false = false := by
          cases hb : L.getD i false with
          | false => rfl
          | true => have := J.inv.LX i hb; rw [hdi] at this; cases this
        obtain ⟨tq, hopq⟩ := isMk_op hmk
        have hni : nb i = none := by
          cases hh : nb i with
          | none => rfl
          | some b' => have := (J.inv.nblt i b' hh).2; rw [hdi] at this; cases this
        have hnbu : ∀ j' b', nb j' = some b' → upd nb i none j' = some b' := fun j' b' h => by
          rw [upd_ne]
          · exact h
          · intro e; subst e; rw [hni] at h; cases h
        have hvne := isBad_false hvb
        -- what holds of every list of entries with the new one ahead
        have build : ∀ (es : List (Nat × Nat × Nat × SV)) (ms1 : List Nat), s0.nx ≤ b → b < s.nx → writable (s.h.get b) = true → isNone (s.h.get b) = false → b ∈ ms1 → ms1.Nodup → (∀ x ∈ ms, x ∈ ms1) → (∀ x ∈ ms1, x ≠ b → x ∈ ms) →
            (∀ es0, s.h.get b = .mapp es0 → es = es0) →
            (es.map (·.1)).Nodup → (∀ x ∈ es, x.1 ≠ i) → (es.map fun x => (x.2.1, x.2.2.1)).Nodup → (l, m) ∉ (es.map fun x => (x.2.1, x.2.2.1)) →
            (∀ x ∈ es, ∃ r, rows[x.1]? = some r ∧ (kindOp r.o.op = 3 ∧ r.o.guard = none ∧ ∃ t k v, r.o.op = .insert t (.tmp tm) k v) ∧ r.before.testBit j = true ∧ d.testBit x.1 = true) →
            (∀ q base e, ρ b = some (q, base, e) → ∃ (es' : Array MapEntry) (clock : Nat) (l : List (SV × SV × Nat)), w.heap[q]? = some (.map es' clock) ∧ ER ρ l es'.toList ∧ (l.map fun y => (y.1, y.2.1)).Perm ((es.filter fun x => L.getD x.1 false).map fun x => (SV.str x.2.1 x.2.2.1, x.2.2.2))) →
            InvQ P ops rows ρ0 s0 w0 N n fr0 a0 (d ||| 2 ^ i) (upd sv i (.tup [])) (upd nb i none) ps ms1 (fr.put r.o.dst (.tup [])) (s.withH (s.h.set b (.mapp ((i, l, m, evO v fr.env) :: es)))) ρ L a w := by
          intro es ms1 hge hlt hwr hnn hbm hnd hsub hsub' hes hn1 hni1 hn2 hni2 hrow hreal
          have hgb : (s.withH (s.h.set b (.mapp ((i, l, m, evO v fr.env) :: es)))).h.get b = .mapp ((i, l, m, evO v fr.env) :: es) ∨ (s.withH (s.h.set b (.mapp ((i, l, m, evO v fr.env) :: es)))).h.get b = .none := Hp.get_set_eq _ _ _
          have hgb' : (s.withH (s.h.set b (.mapp ((i, l, m, evO v fr.env) :: es)))).h.get b = .mapp ((i, l, m, evO v fr.env) :: es) := by
            exact Hp.get_set_there _ _ _ hnn
          have hgn : ∀ b', b' ≠ b → (s.withH (s.h.set b (.mapp ((i, l, m, evO v fr.env) :: es)))).h.get b' = s.h.get b' := fun b' h => Hp.get_set_ne _ _ _ _ h
          have hQI : ∀ i' o σ, QI P ms1 s i' o σ → QI P ms1 (s.withH (s.h.set b (.mapp ((i, l, m, evO v fr.env) :: es)))) i' o σ := by
            rintro i' o σ ⟨t', tm', k', v', kt', et', b', l', m', es', g1, g2, g3, g4, g5, g6, g7, g8, g9⟩
            by_cases e : b' = b
            · subst e
              have := hes es' g8
              subst this
              exact ⟨t', tm', k', v', kt', et', b', l', m', _, g1, g2, g3, g4, g5, g6, g7, hgb', List.mem_cons_of_mem _ g9⟩
            · exact ⟨t', tm', k', v', kt', et', b', l', m', es', g1, g2, g3, g4, g5, g6, g7, (hgn b' e).trans g8, g9⟩
          have J1 : Inv (QI P ms1) P ops rows ρ0 s0 w0 N n fr0 a0 d sv nb ps fr s ρ L a w := J.inv.monoPI fun i' r' σ _ _ _ ⟨t', tm', k', v', kt', et', b', l', m', es', g1, g2, g3, g4, g5, g6, g7, g8⟩ => ⟨t', tm', k', v', kt', et', b', l', m', es', g1, g2, g3, g4, g5, g6, hsub _ g7, g8⟩
          have hop' := opEnv_now F J1 hr hdi hbd
          refine ⟨?_, hnd, ?_, ?_⟩
          · refine inv_plan F J1 hr hdi hbd (fun p hp => hp) (fun j' hj' => upd_ne _ _ hj') (fun b' hb' => ?_) (Nat.le_refl _) (fun b' hb' => ?_) hQI ?_ (Ext.reblk J.inv.ext hge _) ?_
            · rw [upd_self] at hb'; cases hb'
            · by_cases e : b' = b
              · subst e; rw [hgb']; exact .inr rfl
              · exact .inl (hgn b' e)
            · exact J.inv.rel.reblk (fun _ _ _ _ => by simp [BR]) (fun _ => hwr) (fun _ => hnn)
            · exact ⟨fr.env, hop'.upd' J1 hdi _ hr hbd, .inr (.inr (.inr ⟨hw, hk, upd_self _ _ _, t, tm, k, v, kt, et, b, l, m, _, hop, hu, hkt, hm, hkey, hvne, hbm, hgb', List.mem_cons_self⟩))⟩
          · intro b' hb'
            by_cases e : b' = b
            · subst e
              refine ⟨hge, hlt, _, hgb', by simp, ?_, ?_, ⟨j, hnbu j b' hnbj, tm, ⟨q, tq, hj, hopq, hqd⟩, ?_⟩, ?_⟩
              · simp only [List.map_cons, List.nodup_cons]
                refine ⟨fun hm' => ?_, hn1⟩
                obtain ⟨x, hx, he⟩ := List.mem_map.1 hm'
                exact hni1 x hx he
              · simp only [List.map_cons, List.nodup_cons]
                exact ⟨hni2, hn2⟩
              · intro x hx
                rcases List.mem_cons.1 hx with rfl | hx
                · exact ⟨r, hr, ⟨hk, hgd, t, k, v, hop⟩, hqb, (bit_or d i i).2 (.inr rfl)⟩
                · obtain ⟨r', q1, q2, q3, q4⟩ := hrow x hx
                  exact ⟨r', q1, q2, q3, (bit_or d i _).2 (.inl q4)⟩
              · intro q' base e hb
                obtain ⟨es', clock, l', g1, g2, g3⟩ := hreal q' base e hb
                refine ⟨es', clock, l', g1, g2, ?_⟩
                rw [List.filter_cons_of_neg (by simp only; rw [hLi]; simp)]
                exact g3
            · exact (J.mq b' (hsub' b' hb' e)).keep (fun j' h => hnbu j' b' h) (fun i' h => (bit_or d i i').2 (.inl h)) (Nat.le_refl _) (hgn b' e)
          · intro j' q' hq' hmk' hd' b' hb'
            have hne : j' ≠ i := fun e => by
              subst e; rw [hr] at hq'; cases hq'
              rw [isMk_kind hmk'] at hk; cases hk
            rw [upd_ne _ _ hne] at hb' ⊢
            rcases (bit_or d i j').1 hd' with h | h
            · exact J.kq j' q' hq' hmk' h b' hb'
            · exact absurd h hne
        split at hp
        · rename_i es clock hg
          cases hc : (es.isEmpty && Nat.ble s0.nx b && Nat.ble (Nat.succ b) s.nx && !(memN b ms)) with
          | false => rw [hc] at hp; cases hp
          | true =>
            rw [hc, cond_true] at hp
            cases hp
            simp only [Bool.and_eq_true, Bool.not_eq_true'] at hc
            obtain ⟨⟨⟨h1, h2⟩, h3⟩, h4⟩ := hc
            have hb4 := memN_false h4
            rw [hri]
            refine build [] (b :: ms) (Nat.le_of_ble_eq_true h2) (Nat.le_of_ble_eq_true h3) (by rw [hg]; rfl) (by rw [hg]; rfl) List.mem_cons_self (List.nodup_cons.2 ⟨hb4, J.mnd⟩) (fun x hx => List.mem_cons_of_mem _ hx) (fun x hx hne => by rcases List.mem_cons.1 hx with h | h; exact absurd h hne; exact h)
              (fun es0 h => by rw [hg] at h; cases h) List.nodup_nil (fun x hx => by cases hx) List.nodup_nil (by simp) (fun x hx => by cases hx) (fun q' base e hb => ?_)
            have hL := J.inv.rel.live _ _ _ _ hb
            rw [hg] at hL
            obtain ⟨es', ho, her⟩ := hL
            have hes : es = [] := by cases es with
              | nil => rfl
              | cons _ _ => simp at h1
            subst hes
            exact ⟨es', clock, [], ho, her, by simp⟩
        · rename_i es hg
          cases hc : (memN b ms && notKey l m es) with
          | false => rw [hc] at hp; cases hp
          | true =>
            rw [hc, cond_true] at hp
            cases hp
            rw [Bool.and_eq_true] at hc
            have hbm := memN_iff.1 hc.1
            obtain ⟨g1, g2, es0, g3, g4, g5, g6, ⟨j0, g7, tm0, ⟨q0, t0, g8, _, g80⟩, g9⟩, g10⟩ := J.mq b hbm
            rw [hg] at g3
            cases g3
            have hj0 : j0 = j := J.inv.nbne j0 j b g7 hnbj
            subst hj0
            rw [hj] at g8; cases g8
            rw [hqd] at g80; cases g80
            rw [hri]
            refine build es ms g1 g2 (by rw [hg]; rfl) (by rw [hg]; rfl) hbm J.mnd (fun x hx => hx) (fun x hx _ => hx) (fun es0 h => by rw [hg] at h; cases h; rfl) g5 (fun x hx e => ?_) g6 (notKey_not hc.2) g9 g10
            obtain ⟨_, _, _, _, q4⟩ := g9 x hx
            rw [e, hdi] at q4; cases q4
        · cases hp
      · cases hp
  · cases hp
end Go.Sh
