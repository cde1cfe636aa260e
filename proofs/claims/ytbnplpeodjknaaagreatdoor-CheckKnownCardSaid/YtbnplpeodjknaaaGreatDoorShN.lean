/- Part of a proof that a closed law answers true: the evaluator of the first text is sound; this text is one step of it. No condition. -/
import Derived.Test.YtbnplpeodjknaaaGreatDoorShM
set_option linter.unusedSectionVars false
set_option linter.unusedSimpArgs false
set_option linter.unusedVariables false
namespace Go.Sh
variable [Opq]
open Go.RowKit (Below)
variable {I : Rho → World → Prop}
variable {P : Program} {ρ : Rho} {N : Bound I} {s : St} {w : World} {k0 : Prop}

/-! ## keys -/
/-- a key that is comparable with itself may be asked for -/
theorem checkKey_ok {E : EE} {h : Hp} (empty : Bool) : ∀ (n m : Nat), n ≤ m → ∀ (t : TypeId) (x : SV) (v : Value), eqT E P h n t x x = some true → VR ρ x v → ∀ w : World, (Instr.checkKey empty m t v).run P w = .ok () w
  | 0, _, _, _, _, _, hq, _, _ => by simp [eqT] at hq
  | n + 1, 0, hm, _, _, _, _, _, _ => by omega
  | n + 1, m + 1, hm, t, x, v, hq, hv, w => by
    simp only [eqT] at hq
    split at hq
    · rename_i dd hd
      split at hq
      · simp [Instr.checkKey, run_underlying hd]
      · simp [Instr.checkKey, run_underlying hd]
      · simp [Instr.checkKey, run_underlying hd]
      · simp [Instr.checkKey, run_underlying hd]
      · -- interface
        cases x with
        | nili =>
          simp only [VR] at hv
          subst hv
          simp [Instr.checkKey, run_underlying hd]
        | _ => simp at hq
      · simp [Instr.checkKey, run_underlying hd]
      · simp [Instr.checkKey, run_underlying hd]
      · simp [Instr.checkKey, run_underlying hd]
      · -- struct
        rename_i fs
        cases hEt : E.e t with
        | false => rw [hEt] at hq; simp at hq
        | true =>
          rw [hEt, cond_true] at hq
          cases x with
          | agg as =>
            simp only at hq
            simp only [VR] at hv
            obtain ⟨l, hl, rfl⟩ := hv
            have ih := checkKey_ok (E := E) (h := h) empty n m (by omega)
            simp only [Instr.checkKey, Sem.run_bind, run_underlying hd, Result.andThen_ok]
            rw [← Array.forIn_toList]
            revert hq
            generalize fs.toList = fl
            intro hq
            induction fl with
            | nil => simp
            | cons f fl ihf =>
              simp only [eqT.eqFs] at hq
              split at hq
              · rename_i heq
                have ihf' := ihf hq
                simp only [List.forIn_cons, Sem.run_bind]
                by_cases hb : f.name ≠ "_"
                · obtain ⟨n1, _⟩ := eqT_bad heq
                  obtain ⟨u1, p1, q1⟩ := partV_sound (l := l.toArray) (by simpa using hl) n1
                  simp only [if_pos hb, Sem.run_bind, p1, Result.andThen_ok, ih _ _ _ heq q1 w, Sem.run_pure]
                  exact ihf'
                · simp only [if_neg hb, Sem.run_pure, Result.andThen_ok]
                  exact ihf'
              · rename_i heq
                cases hbl : fieldBlank f <;> rw [hbl] at hq <;> simp at hq
              · cases hq
          | _ => simp at hq
      · cases hq
    · cases hq

theorem sameC_eq {a b : SV} (h : sameC a b = true) : a = b ∧ ∀ (n : Nat) (u v : Value), VR ρ a u → VR ρ b v → u = v ∧ Instr.sameBits n u v = true := by
  cases a <;> cases b <;> simp [sameC] at h
  · subst_vars
    rw [eqB_eq] at h
    have := eq_of_beq h
    subst this
    refine ⟨rfl, fun n u v hu hv => ?_⟩
    simp only [VR] at hu hv
    subst hu hv
    cases n <;> simp [Instr.sameBits]
  · rename_i k a k' b
    cases hk : eqK k k' with
    | false => rw [hk] at h; simp at h
    | true =>
      have := (eqK_eq k k').1 hk
      subst this
      rw [hk] at h
      simp at h
      rw [eqI_eq] at h
      have := eq_of_beq h
      subst this
      refine ⟨rfl, fun n u v hu hv => ?_⟩
      simp only [VR] at hu hv
      subst hu hv
      cases n <;> simp [Instr.sameBits]
  · rename_i la na lb nb
    unfold eqStr at h
    cases hl : Nat.beq la lb with
    | false => rw [hl] at h; simp at h
    | true =>
      rw [hl, cond_true] at h
      have h1 := Nat.eq_of_beq_eq_true hl
      have h2 := Nat.eq_of_beq_eq_true h
      subst h1 h2
      refine ⟨rfl, fun n u v hu hv => ?_⟩
      simp only [VR] at hu hv
      obtain ⟨a, rfl, ha⟩ := hu
      obtain ⟨b, rfl, hb⟩ := hv
      have hab : a = b := by
        have := natOf_inj a.data.toList b.data.toList (by rw [SR.len ha, SR.len hb]) (by rw [ha.2, hb.2])
        have h3 : a.data = b.data := Array.ext' this
        cases a; cases b; simp at h3; rw [h3]
      subst hab
      have haa : (a == a) = true := by rw [beq_toListBytes]; simp
      cases n <;> simp [Instr.sameBits, haa]
theorem sameCs_eq {ρ : Rho} : ∀ {as bs : List SV}, sameCs as bs = true → as = bs ∧ ∀ (n : Nat) (us vs : List Value), VRs ρ as us → VRs ρ bs vs → us = vs ∧ us.length = vs.length ∧ (us.zip vs).all (fun (x, y) => Instr.sameBits n x y) = true
  | [], [], _ => ⟨rfl, fun n us vs hu hv => by rw [VRs.nil_iff] at hu hv; subst hu hv; simp⟩
  | [], _ :: _, h => by simp [sameCs] at h
  | _ :: _, [], h => by simp [sameCs] at h
  | a :: as, b :: bs, h => by
    simp only [sameCs] at h
    cases hc : sameC a b with
    | false => rw [hc] at h; simp at h
    | true =>
      rw [hc, cond_true] at h
      obtain ⟨h1, h2⟩ := sameC_eq (ρ := ρ) hc
      obtain ⟨h3, h4⟩ := sameCs_eq (ρ := ρ) h
      subst h1 h3
      refine ⟨rfl, fun n us vs hu hv => ?_⟩
      obtain ⟨u, us', p1, p2, rfl⟩ := hu.cons_inv
      obtain ⟨v, vs', q1, q2, rfl⟩ := hv.cons_inv
      obtain ⟨e1, e2⟩ := h2 n u v p1 q1
      obtain ⟨e3, e4, e5⟩ := h4 n us' vs' p2 q2
      subst e1 e3
      exact ⟨rfl, rfl, by simp only [List.zip_cons_cons, List.all_cons, e2, Bool.true_and]; exact e5⟩
theorem sameKey_eq {a b : SV} (h : sameKey a b = true) : a = b ∧ ∀ (n : Nat) (u v : Value), VR ρ a u → VR ρ b v → u = v ∧ Instr.sameBits (n + 1) u v = true := by
  cases a with
  | agg as =>
    cases b <;> simp [sameKey] at h
    rename_i bs
    obtain ⟨h1, h2⟩ := sameCs_eq (ρ := ρ) h
    subst h1
    refine ⟨rfl, fun n u v hu hv => ?_⟩
    simp only [VR] at hu hv
    obtain ⟨us, hus, rfl⟩ := hu
    obtain ⟨vs, hvs, rfl⟩ := hv
    obtain ⟨e1, e2, e3⟩ := h2 n us vs hus hvs
    subst e1
    refine ⟨rfl, ?_⟩
    simp only [Instr.sameBits]
    simpa using e3
  | _ =>
    simp only [sameKey] at h
    obtain ⟨h1, h2⟩ := sameC_eq (ρ := ρ) h
    exact ⟨h1, fun n u v hu hv => h2 (n + 1) u v hu hv⟩

/-! ## finding -/
/-- the entry that is found, on both sides -/
def FR (ρ : Rho) (es' : List MapEntry) (i0 : Nat) : Option (Nat × SV × Nat × SV) → Option (Nat × Value) → Prop
  | none, r => r = none
  | some (i, v, b, k'), r => ∃ e, i0 ≤ i ∧ es'[i - i0]? = some e ∧ r = some (i, e.val) ∧ VR ρ v e.val ∧ e.born = b ∧ VR ρ k' e.key
theorem FR.shift {ρ : Rho} {es' : List MapEntry} {e : MapEntry} {i0 : Nat} {o : Option (Nat × SV × Nat × SV)} {r : Option (Nat × Value)} (h : FR ρ es' (i0 + 1) o r) : FR ρ (e :: es') i0 o r := by
  cases o with
  | none => exact h
  | some q =>
    obtain ⟨i, v, b, k'⟩ := q
    simp only [FR] at h ⊢
    obtain ⟨e', h1, h2, h3⟩ := h
    refine ⟨e', by omega, ?_, h3⟩
    have : i - i0 = (i - (i0 + 1)) + 1 := by omega
    rw [this, List.getElem?_cons_succ]
    exact h2
theorem keyFind_cons {eq : SV → SV → Option Bool} {k k' v : SV} {b : Nat} {es : List (SV × SV × Nat)} {i : Nat} {o : Option (Nat × SV × Nat × SV)} (h : keyFind eq k ((k', v, b) :: es) i = some o) :
    (eq k k' = some true ∧ o = some (i, v, b, k')) ∨ (eq k k' = some false ∧ keyFind eq k es (i + 1) = some o) := by
  simp only [keyFind] at h
  split at h
  · rename_i heq; cases h; exact .inl ⟨heq, rfl⟩
  · rename_i heq; exact .inr ⟨heq, h⟩
  · cases h
theorem findAsking_sound {E : EE} (hE : EOk P E) (H : Rel ρ N s w) {kt : TypeId} {k : SV} {vk : Value} (hk : VR ρ k vk) : ∀ (es : List (SV × SV × Nat)) (es' : List MapEntry) (i : Nat) (o : Option (Nat × SV × Nat × SV)),
    keyFind (eqT E P s.h 3 kt) k es i = some o → ER ρ es es' → ∃ r, (Instr.findAsking kt vk es' i).run P w = .ok r w ∧ FR ρ es' i o r
  | [], es', i, o, h, he => by
    simp only [ER] at he
    subst he
    simp only [keyFind] at h
    cases h
    exact ⟨none, by simp [Instr.findAsking], rfl⟩
  | (k', v, b) :: es, es', i, o, h, he => by
    simp only [ER] at he
    obtain ⟨e, es'', h1, h2, h3, h4, rfl⟩ := he
    rcases keyFind_cons h with ⟨hq, rfl⟩ | ⟨hq, hrest⟩
    · have heq := eqT_sound hE H 3 10000 (by omega) kt k k' vk e.key true hq (fun _ => hk) (fun _ => h1)
      refine ⟨some (i, e.val), ?_, e, Nat.le_refl _, by simp, rfl, h2, h3, h1⟩
      have heq' : (Op.equal kt vk e.key).run P w = .ok true w := heq
      simp [Instr.findAsking, heq']
    · have heq := eqT_sound hE H 3 10000 (by omega) kt k k' vk e.key false hq (fun _ => hk) (fun _ => h1)
      obtain ⟨r, h5, h6⟩ := findAsking_sound hE H hk es es'' (i + 1) o hrest h4
      refine ⟨r, ?_, h6.shift⟩
      have heq' : (Op.equal kt vk e.key).run P w = .ok false w := heq
      simp [Instr.findAsking, heq', h5]
theorem sameNow_sound {E : EE} {h : Hp} {kt : TypeId} {dd : TypeDesc} (hd : P.underlying kt = some dd) {k k' : SV} {u v : Value} {r b : Bool} (hq : eqT E P h 3 kt k k' = some r) (hu : VR ρ k u) (hv : VR ρ k' v) (hs : Instr.sameNow dd u v = some b) : r = b := by
  simp only [eqT, hd] at hq
  cases dd with
  | int kk =>
    simp only at hq
    split at hq
    · rename_i k1 a k2 b'
      simp only [VR] at hu hv
      subst hu hv
      cases hk : eqK k1 k2 with
      | false => rw [hk] at hq; simp at hq
      | true =>
        have := (eqK_eq k1 k2).1 hk
        subst this
        rw [hk] at hq
        simp [Instr.sameNow] at hs
        cases hq
        rw [eqI_eq]; exact hs
    · cases hq
  | bool =>
    simp only at hq
    split at hq
    · simp only [VR] at hu hv
      subst hu hv
      simp [Instr.sameNow] at hs
      cases hq
      rw [eqB_eq]; exact hs
    · cases hq
  | string =>
    simp only at hq
    split at hq
    · rename_i la na lb nb
      simp only [VR] at hu hv
      obtain ⟨a, rfl, ha⟩ := hu
      obtain ⟨b', rfl, hb⟩ := hv
      simp [Instr.sameNow] at hs
      cases hq
      rw [← SR.len ha, ← SR.len hb, ← ha.2, ← hb.2, eqStr_eq, ← hs, beq_toListBytes, ByteArray.toList_eq, ByteArray.toList_eq]
    · cases hq
  | _ => simp [Instr.sameNow] at hs
theorem findNow_sound {E : EE} {h : Hp} {kt : TypeId} {dd : TypeDesc} (hd : P.underlying kt = some dd) {k : SV} {vk : Value} (hk : VR ρ k vk) : ∀ (es : List (SV × SV × Nat)) (es' : List MapEntry) (i : Nat) (o : Option (Nat × SV × Nat × SV)),
    keyFind (eqT E P h 3 kt) k es i = some o → ER ρ es es' → Instr.findNow dd vk es' i = none ∨ ∃ r, Instr.findNow dd vk es' i = some r ∧ FR ρ es' i o r
  | [], es', i, o, hf, he => by
    simp only [ER] at he
    subst he
    simp only [keyFind] at hf
    cases hf
    exact .inr ⟨none, by simp [Instr.findNow], rfl⟩
  | (k', v, b) :: es, es', i, o, hf, he => by
    simp only [ER] at he
    obtain ⟨e, es'', h1, h2, h3, h4, rfl⟩ := he
    cases hs : Instr.sameNow dd vk e.key with
    | none => left; simp [Instr.findNow, hs]
    | some b' =>
      rcases keyFind_cons hf with ⟨hq, rfl⟩ | ⟨hq, hrest⟩
      · have := sameNow_sound hd hq hk h1 hs
        subst this
        right
        exact ⟨some (i, e.val), by simp [Instr.findNow, hs], e, Nat.le_refl _, by simp, rfl, h2, h3, h1⟩
      · have := sameNow_sound hd hq hk h1 hs
        subst this
        rcases findNow_sound hd hk es es'' (i + 1) o hrest h4 with h5 | ⟨r, h5, h6⟩
        · left; simp [Instr.findNow, hs, h5]
        · right; exact ⟨r, by simp [Instr.findNow, hs, h5], h6.shift⟩
theorem findKey_sound {E : EE} (hE : EOk P E) (H : Rel ρ N s w) {kt : TypeId} {dd : TypeDesc} (hd : P.underlying kt = some dd) {k : SV} {vk : Value} (hk : VR ρ k vk) {es : List (SV × SV × Nat)} {es' : List MapEntry} {o : Option (Nat × SV × Nat × SV)}
    (h : keyFind (eqT E P s.h 3 kt) k es 0 = some o) (he : ER ρ es es') : ∃ r, (Instr.findKey kt vk es').run P w = .ok r w ∧ FR ρ es' 0 o r := by
  simp only [Instr.findKey, Sem.run_bind, run_underlying hd, Result.andThen_ok]
  rcases findNow_sound hd hk es es' 0 o h he with h5 | ⟨r, h5, h6⟩
  · rw [h5]
    exact findAsking_sound hE H hk es es' 0 o h he
  · rw [h5]
    exact ⟨r, rfl, h6⟩

/-! ## the operations on maps -/
theorem keyOk_some {E : EE} {h : Hp} {t : TypeId} {k : SV} (hq : keyOk E P h t k = true) : eqT E P h 3 t k k = some true ∧ sameKey k k = true := by
  unfold keyOk at hq
  cases hs : sameKey k k with
  | false => rw [hs] at hq; simp at hq
  | true =>
    rw [hs, cond_true] at hq
    split at hq
    · rename_i he; exact ⟨he, rfl⟩
    · cases hq
theorem eqT_some_underlying {E : EE} {h : Hp} {t : TypeId} {x y : SV} {r : Bool} (hq : eqT E P h 3 t x y = some r) : ∃ dd, P.underlying t = some dd := by
  simp only [eqT] at hq
  split at hq
  · rename_i dd hd; exact ⟨dd, hd⟩
  · cases hq
variable {env : En} {re : Operand → Value} {d : Option Tmp} {ty : TypeId} {pos : String} {af : Array Edge} {gd : Option (Nat × Bool)}
/-- looking a key up, in entries that are known -/
theorem lookup_core {E : EE} (hE : EOk P E) (H : Rel ρ N s w) {kt : TypeId} {k : SV} {vk : Value} (hk : k ≠ .bad → VR ρ k vk) (hok : keyOk E P s.h kt k = true) {es : List (SV × SV × Nat)} {es' : List MapEntry} (he : ER ρ es es') {o : Option (Nat × SV × Nat × SV)}
    (h : keyFind (eqT E P s.h 3 kt) k es 0 = some o) : (∀ b, (Instr.checkKey b 10000 kt vk).run P w = .ok () w) ∧ ∃ r, (Instr.findKey kt vk es').run P w = .ok r w ∧ FR ρ es' 0 o r := by
  obtain ⟨h1, h2⟩ := keyOk_some hok
  have hb := (eqT_bad h1).1
  obtain ⟨dd, hd⟩ := eqT_some_underlying h1
  exact ⟨fun b => checkKey_ok b 3 10000 (by omega) kt k vk h1 (hk hb) w, findKey_sound hE H hd (hk hb) h he⟩
theorem eqT_str {E : EE} {h : Hp} {t : TypeId} {x : SV} {l m : Nat} {r : Bool} (hq : eqT E P h 3 t x (.str l m) = some r) : P.underlying t = some .string ∧ ∃ l' m', x = .str l' m' ∧ ∀ a b, eqT E P h 3 t x (.str a b) = some (eqStr l' m' a b) := by
  simp only [eqT] at hq ⊢
  split at hq
  · rename_i dd hd
    cases dd <;> simp only at hq <;> try (cases hq; done)
    case string =>
      cases x <;> simp only at hq <;> try (cases hq; done)
      exact ⟨hd, _, _, rfl, fun a b => by simp only⟩
    all_goals
      first
        | (cases x <;> simp at hq; done)
        | (exfalso
           split at hq <;> first | (cases hq; done) | (simp at hq; done) | (cases x <;> simp at hq; done))
        | (exfalso
           revert hq
           cases x <;> simp
           done)
  · cases hq
theorem eqStr_iff {l n l' n' : Nat} : eqStr l n l' n' = true ↔ (l = l' ∧ n = n') := by
  unfold eqStr
  cases h : Nat.beq l l' with
  | false => simp only [cond_false]; exact ⟨fun e => (by cases e), fun e => (by rw [e.1] at h; simp at h)⟩
  | true => rw [cond_true]; exact ⟨fun e => ⟨Nat.eq_of_beq_eq_true h, Nat.eq_of_beq_eq_true e⟩, fun e => (by rw [e.2]; exact Nat.beq_refl _)⟩
/-- a string among strings -/
theorem keyFind_str {eq : SV → SV → Option Bool} {lk nk : Nat} (he : ∀ a b, eq (.str lk nk) (.str a b) = some (eqStr lk nk a b)) : ∀ (xs : List (SV × SV × Nat)) (i : Nat), (∀ x ∈ xs, ∃ a b, x.1 = .str a b) →
    (keyFind eq (.str lk nk) xs i = some none ∧ ∀ x ∈ xs, x.1 ≠ .str lk nk) ∨ ∃ j v b, keyFind eq (.str lk nk) xs i = some (some (j, v, b, .str lk nk)) ∧ (SV.str lk nk, v, b) ∈ xs
  | [], i, _ => .inl ⟨rfl, fun x hx => by cases hx⟩
  | (k', v, b) :: xs, i, h => by
    obtain ⟨a, c, hk⟩ := h (k', v, b) List.mem_cons_self
    simp only at hk
    subst hk
    simp only [keyFind, he]
    cases hq : eqStr lk nk a c with
    | true =>
      obtain ⟨rfl, rfl⟩ := eqStr_iff.1 hq
      exact .inr ⟨i, v, b, rfl, List.mem_cons_self⟩
    | false =>
      rcases keyFind_str he xs (Nat.succ i) (fun x hx => h x (List.mem_cons_of_mem _ hx)) with ⟨h1, h2⟩ | ⟨j, u, c', h1, h2⟩
      · refine .inl ⟨h1, fun x hx => ?_⟩
        rcases List.mem_cons.1 hx with rfl | hx
        · intro e
          simp only [SV.str.injEq] at e
          rw [e.1, e.2, eqStr_iff.2 ⟨rfl, rfl⟩] at hq
          cases hq
        · exact h2 x hx
      · exact .inr ⟨j, u, c', h1, List.mem_cons_of_mem _ h2⟩
def sameO (o o' : Option (Nat × SV × Nat × SV)) : Prop := match o with
  | none => o' = none
  | some (_, v, _, _) => ∃ i b k, o' = some (i, v, b, k)
theorem sameO.refl (o : Option (Nat × SV × Nat × SV)) : sameO o o := by
  cases o with
  | none => rfl
  | some x => obtain ⟨i, v, b, k⟩ := x; exact ⟨i, b, k, rfl⟩
theorem nodup_val {α β : Type} {f : α → β} : ∀ {l : List α}, (l.map f).Nodup → ∀ x ∈ l, ∀ y ∈ l, f x = f y → x = y
  | [], _, x, hx, _, _, _ => by cases hx
  | a :: l, h, x, hx, y, hy, e => by
    simp only [List.map_cons, List.nodup_cons] at h
    rcases List.mem_cons.1 hx with rfl | hx' <;> rcases List.mem_cons.1 hy with rfl | hy'
    · rfl
    · exact absurd (e ▸ List.mem_map.2 ⟨y, hy', rfl⟩) h.1
    · exact absurd (e ▸ List.mem_map.2 ⟨x, hx', rfl⟩) h.1
    · exact nodup_val h.2 x hx' y hy' e
/-- the entries of a map, in their own order, and a key among them -/
theorem entsOf_some {E : EE} (H : Rel ρ N s w) {m : SV} {vm : Value} {es : List (SV × SV × Nat)} {kt : TypeId} {k : SV} (hm : m ≠ .bad → VR ρ m vm) (h : entsOf s m = some es) :
    ∃ (es' : Array MapEntry) (es1 : List (SV × SV × Nat)), ER ρ es1 es'.toList ∧ ((vm = .map none ∧ es' = #[]) ∨ ∃ r clock, vm = .map (some r) ∧ (getObj r).run P w = .ok (.map es' clock) w) ∧
      ∀ o, keyFind (eqT E P s.h 3 kt) k es 0 = some o → ∃ o1, keyFind (eqT E P s.h 3 kt) k es1 0 = some o1 ∧ sameO o o1 := by
  unfold entsOf at h
  split at h
  · cases h
    have := hm (by simp)
    simp only [VR] at this
    exact ⟨#[], [], by simp [ER], .inl ⟨this, rfl⟩, fun o ho => ⟨o, ho, sameO.refl o⟩⟩
  · rename_i b
    split at h
    · rename_i es0 clock hg
      cases h
      have := hm (by simp)
      simp only [VR] at this
      obtain ⟨r, base, e, hb, rfl⟩ := this
      have hL := H.live _ _ _ _ hb
      rw [hg] at hL
      obtain ⟨es', ho, her⟩ := hL
      exact ⟨es', _, her, .inr ⟨r, clock, rfl, run_getObj w r _ ho (by simp)⟩, fun o ho => ⟨o, ho, sameO.refl o⟩⟩
    · rename_i es0 hg
      cases h
      have := hm (by simp)
      simp only [VR] at this
      obtain ⟨r, base, e, hb, rfl⟩ := this
      have hL := H.live _ _ _ _ hb
      rw [hg] at hL
      obtain ⟨es', clock, l, ho, her, hperm, hnd⟩ := hL
      refine ⟨es', l, her, .inr ⟨r, clock, rfl, run_getObj w r _ ho (by simp)⟩, fun o hf => ?_⟩
      have hto : ∀ x ∈ l, ∃ y ∈ es0, x.1 = .str y.1 y.2.1 ∧ x.2.1 = y.2.2 := fun x hx => by
        have := hperm.mem_iff.1 (List.mem_map.2 ⟨x, hx, rfl⟩)
        obtain ⟨y, hy, he⟩ := List.mem_map.1 this
        rw [Prod.mk.injEq] at he
        exact ⟨y, hy, he.1.symm, he.2.symm⟩
      have hfrom : ∀ y ∈ es0, ∃ x ∈ l, x.1 = .str y.1 y.2.1 ∧ x.2.1 = y.2.2 := fun y hy => by
        have := hperm.symm.mem_iff.1 (List.mem_map.2 ⟨y, hy, rfl⟩)
        obtain ⟨x, hx, he⟩ := List.mem_map.1 this
        rw [Prod.mk.injEq] at he
        exact ⟨x, hx, he.1, he.2⟩
      cases es0 with
      | nil =>
        have : l = [] := by
          cases l with
          | nil => rfl
          | cons x l => obtain ⟨y, hy, _⟩ := hto x List.mem_cons_self; cases hy
        subst this
        exact ⟨o, hf, sameO.refl o⟩
      | cons y0 ys =>
        have hq : ∃ b, eqT E P s.h 3 kt k (.str y0.1 y0.2.1) = some b := by
          simp only [List.map_cons, keyFind] at hf
          split at hf
          · rename_i hq; exact ⟨_, hq⟩
          · rename_i hq; exact ⟨_, hq⟩
          · cases hf
        obtain ⟨bq, hq⟩ := hq
        obtain ⟨hkt, lk, nk, rfl, heq⟩ := eqT_str hq
        have k1 := keyFind_str heq ((y0 :: ys).map fun x => (SV.str x.1 x.2.1, x.2.2, 0)) 0 (fun x hx => by
          obtain ⟨y, _, rfl⟩ := List.mem_map.1 hx
          exact ⟨_, _, rfl⟩)
        have k2 := keyFind_str heq l 0 (fun x hx => by obtain ⟨y, _, h1, _⟩ := hto x hx; exact ⟨_, _, h1⟩)
        rcases k1 with ⟨h1, h2⟩ | ⟨j, v, b', h1, h2⟩
        · rw [h1] at hf; cases hf
          rcases k2 with ⟨g1, g2⟩ | ⟨j', v', b'', g1, g2⟩
          · exact ⟨none, g1, rfl⟩
          · exfalso
            obtain ⟨y, hy, e1, _⟩ := hto _ g2
            exact h2 (SV.str y.1 y.2.1, y.2.2, 0) (List.mem_map.2 ⟨y, hy, rfl⟩) e1.symm
        · rw [h1] at hf; cases hf
          obtain ⟨y, hy, he⟩ := List.mem_map.1 h2
          simp only [Prod.mk.injEq, SV.str.injEq] at he
          rcases k2 with ⟨g1, g2⟩ | ⟨j', v', b'', g1, g2⟩
          · exfalso
            obtain ⟨x, hx, e1, _⟩ := hfrom y hy
            exact g2 x hx (by rw [e1, he.1.1, he.1.2])
          · obtain ⟨y', hy', e1, e2⟩ := hto _ g2
            simp only [SV.str.injEq] at e1
            have := nodup_val hnd y hy y' hy' (by rw [Prod.mk.injEq]; exact ⟨he.1.1.trans e1.1, he.1.2.trans e1.2⟩)
            subst this
            refine ⟨_, g1, j', b'', .str lk nk, ?_⟩
            simp only at e2
            rw [e2, he.2.1]
    · cases h
  · cases h
theorem lookup_sound {E : EE} (hE : EOk P E) (H : Rel ρ N s w) {t : TypeId} {x k : Operand} {ok : Bool} (hx : OR ρ env re x) (hkk : OR ρ env re k) :
    RR P ρ N s w k0 ((execOp re ⟨d, .lookup t x k ok, ty, pos, af, gd⟩).run P w) (exLookup E t x k ok P env s) := by
  unfold exLookup
  refine RR.rv H fun h => ?_
  unfold lookV at h ⊢
  split at h
  · rename_i kt e hu
    cases hok : keyOk E P s.h kt (evO k env) with
    | false => rw [hok] at h; simp at h
    | true =>
      rw [hok, cond_true] at h
      rw [cond_true]
      split at h
      · rename_i es hes
        obtain ⟨es', es1, her, hreal, hfd⟩ := entsOf_some (P := P) (E := E) (kt := kt) (k := evO k env) H hx hes
        have fin : ∀ (r : Option (Nat × Value)), (∀ b, (Instr.checkKey b 10000 kt (re k)).run P w = .ok () w) → (Instr.findKey kt (re k) es'.toList).run P w = .ok r w →
            ∀ (v : Value) (b : Bool), (match r with | some (_, v) => pure (v, true) | none => do pure (← zeroValue e, false) : Sem (Value × Bool)).run P w = .ok (v, b) w →
            (execOp re ⟨d, .lookup t x k ok, ty, pos, af, gd⟩).run P w = .ok (.value (if ok then .tuple #[v, .bool b] else v)) w := by
          intro r hc hf v b hr
          simp only [execOp]
          apply run_v
          rcases hreal with ⟨hvm, rfl⟩ | ⟨rr, clock, hvm, hgo⟩
          · simp only [Instr.lookup, Sem.run_bind, run_underlying hu, Result.andThen_ok, hvm, Sem.run_pure, hc, hf]
            rw [show ([] : List MapEntry) = (#[] : Array MapEntry).toList from rfl] at *
            cases r with
            | none =>
              simp only [Sem.run_bind] at hr ⊢
              revert hr
              cases (zeroValue e).run P w with
              | ok a w1 => intro hr; simp at hr ⊢; obtain ⟨⟨rfl, rfl⟩, rfl⟩ := hr; exact ⟨rfl, rfl⟩
              | halt q w1 => intro hr; simp [Result.andThen] at hr
            | some q => obtain ⟨i, v'⟩ := q; simp at hr ⊢; obtain ⟨rfl, rfl⟩ := hr; rfl
          · simp only [Instr.lookup, Sem.run_bind, run_underlying hu, Result.andThen_ok, hvm, hgo, Sem.run_pure, hc, hf]
            cases r with
            | none =>
              simp only [Sem.run_bind] at hr ⊢
              revert hr
              cases (zeroValue e).run P w with
              | ok a w1 => intro hr; simp at hr ⊢; obtain ⟨⟨rfl, rfl⟩, rfl⟩ := hr; exact ⟨rfl, rfl⟩
              | halt q w1 => intro hr; simp [Result.andThen] at hr
            | some q => obtain ⟨i, v'⟩ := q; simp at hr ⊢; obtain ⟨rfl, rfl⟩ := hr; rfl
        split at h
        · rename_i i v b k' hf
          obtain ⟨o1, hf1, i1, b1, k1, rfl⟩ := hfd _ hf
          obtain ⟨hc, r, hr, hfr⟩ := lookup_core hE H hkk hok her hf1
          obtain ⟨ent, _, _, hrr, hvv, _, _⟩ := hfr
          subst hrr
          refine ⟨_, fin _ hc hr ent.val true rfl, ?_⟩
          cases ok with
          | true => exact tup2 hvv (vrBool true)
          | false => exact hvv
        · rename_i hf
          obtain ⟨o1, hf1, ho1⟩ := hfd _ hf
          have ho1' : o1 = none := ho1
          subst ho1'
          obtain ⟨hc, r, hr, hfr⟩ := lookup_core hE H hkk hok her hf1
          have hrn : r = none := hfr
          subst hrn
          split at h
          · exact absurd rfl h
          · rename_i z hz
            obtain ⟨zv, z1, z2⟩ := zero_run (P := P) (t := e) rfl (fun e' => hz e') ρ
            refine ⟨_, fin _ hc hr zv false (by simp [z1]), ?_⟩
            cases ok with
            | true => exact tup2 z2 (vrBool false)
            | false => exact z2
        · exact absurd rfl h
      · exact absurd rfl h
  · exact absurd rfl h

theorem ER.modify {ρ : Rho} {v : SV} {k0 : SV} {f : MapEntry → MapEntry} : ∀ {es : List (SV × SV × Nat)} {l : List MapEntry} (i : Nat), ER ρ es l → (∀ x e, es[i]? = some x → l[i]? = some e → VR ρ x.1 (f e).key ∧ VR ρ v (f e).val ∧ (f e).born = x.2.2) →
    ER ρ (modAt i v es) (l.modify i f)
  | [], l, i, h, _ => by
    simp only [ER] at h
    subst h
    cases i <;> simp [modAt, ER]
  | (k, u, b) :: es, l, i, h, hf => by
    simp only [ER] at h
    obtain ⟨e, es', h1, h2, h3, h4, rfl⟩ := h
    cases i with
    | zero =>
      obtain ⟨g1, g2, g3⟩ := hf (k, u, b) e rfl rfl
      simp only [modAt, List.modify_zero_cons, ER]
      exact ⟨f e, es', g1, g2, g3, h4, rfl⟩
    | succ i =>
      simp only [modAt, List.modify_succ_cons, ER]
      exact ⟨e, _, h1, h2, h3, ER.modify (k0 := k0) i h4 (fun x e' hx he => hf x e' (by simpa using hx) (by simpa using he)), rfl⟩
theorem ER.append {ρ : Rho} : ∀ {es : List (SV × SV × Nat)} {l : List MapEntry} {x : SV × SV × Nat} {e : MapEntry}, ER ρ es l → VR ρ x.1 e.key → VR ρ x.2.1 e.val → e.born = x.2.2 → ER ρ (es ++ [x]) (l ++ [e])
  | [], l, x, e, h, h1, h2, h3 => by
    simp only [ER] at h
    subst h
    simp only [List.nil_append, ER]
    exact ⟨e, [], h1, h2, h3, rfl, rfl⟩
  | y :: es, l, x, e, h, h1, h2, h3 => by
    simp only [ER] at h
    obtain ⟨e', es', g1, g2, g3, g4, rfl⟩ := h
    simp only [List.cons_append, ER]
    exact ⟨e', _, g1, g2, g3, ER.append g4 h1 h2 h3, rfl⟩
theorem keyFind_get {eq : SV → SV → Option Bool} {k : SV} : ∀ {es : List (SV × SV × Nat)} {i0 i b : Nat} {v k' : SV}, keyFind eq k es i0 = some (some (i, v, b, k')) → i0 ≤ i ∧ es[i - i0]? = some (k', v, b)
  | [], _, _, _, _, _, h => by simp [keyFind] at h
  | (k1, v1, b1) :: es, i0, i, b, v, k', h => by
    rcases keyFind_cons h with ⟨_, h2⟩ | ⟨_, h2⟩
    · cases h2; exact ⟨Nat.le_refl _, by simp⟩
    · obtain ⟨h3, h4⟩ := keyFind_get h2
      refine ⟨by omega, ?_⟩
      have : i - i0 = (i - (i0 + 1)) + 1 := by omega
      rw [this, List.getElem?_cons_succ]; exact h4
theorem ER.get {ρ : Rho} : ∀ {es : List (SV × SV × Nat)} {l : List MapEntry} {i : Nat} {x : SV × SV × Nat} {e : MapEntry}, ER ρ es l → es[i]? = some x → l[i]? = some e → VR ρ x.1 e.key ∧ VR ρ x.2.1 e.val ∧ e.born = x.2.2
  | [], l, i, x, e, h, hx, _ => by simp at hx
  | y :: es, l, i, x, e, h, hx, he => by
    simp only [ER] at h
    obtain ⟨e', es', g1, g2, g3, g4, rfl⟩ := h
    cases i with
    | zero => simp at hx he; subst hx he; exact ⟨g1, g2, g3⟩
    | succ i => exact ER.get g4 (by simpa using hx) (by simpa using he)
theorem modAt_same {k v : SV} {b : Nat} : ∀ {es : List (SV × SV × Nat)} {i : Nat}, es[i]? = some (k, v, b) → modAt i v es = es
  | [], _, h => by simp at h
  | x :: es, 0, h => by simp at h; subst h; rfl
  | x :: es, i + 1, h => by simp only [modAt]; rw [modAt_same (es := es) (i := i) (by simpa using h)]
theorem run_keyStays {old new : Value} (h : Instr.sameBits 10000 old new = true) : (Instr.keyThatStays old new).run P w = .ok new w := by
  simp [Instr.keyThatStays, h]
/-- the map that is written, and what is known of it -/
theorem map_block (H : Rel ρ N s w) {b : Nat} {vm : Value} {es : List (SV × SV × Nat)} {clock : Nat} (hm : VR ρ (.mp b) vm) (hg : s.h.get b = .map es clock) :
    ∃ r base e, ∃ es' : Array MapEntry, vm = .map (some r) ∧ ρ b = some (r, base, e) ∧ w.heap[r]? = some (.map es' clock) ∧ ER ρ es es'.toList ∧ (getObj r).run P w = .ok (.map es' clock) w ∧ (∀ o, (setObj r o).run P w = .ok () (putB w r o)) ∧ N ≤ r := by
  simp only [VR] at hm
  obtain ⟨r, base, e, hb, rfl⟩ := hm
  have hL := H.live _ _ _ _ hb
  rw [hg] at hL
  obtain ⟨es', ho, her⟩ := hL
  have hw : writable (s.h.get b) = true := by rw [hg]; rfl
  exact ⟨r, base, e, es', rfl, hb, ho, her, run_getObj w r _ ho (by simp), fun o => run_setObj w r o _ ho (by simp), H.low _ _ _ _ hb hw⟩
theorem mapPut_sound {E : EE} (hE : EOk P E) (H : Rel ρ N s w) {t : TypeId} {m k v : SV} {vm vk vv : Value} (hm : m ≠ .bad → VR ρ m vm) (hk : k ≠ .bad → VR ρ k vk) (hv : VR ρ v vv) {res : Result Next}
    (hres : ∀ w', (Instr.mapUpdate t vm vk vv).run P w = .ok () w' → res = .ok .skip w') : RR P ρ N s w k0 res (mapPut E P s t m k v) := by
  unfold mapPut
  split
  · rename_i kt e b hu
    cases hok : keyOk E P s.h kt k with
    | false => exact trivial
    | true =>
      rw [cond_true]
      split
      · rename_i es clock hg
        obtain ⟨r, base, e', es', hvm, hb, ho, her, hgo, hso, hN⟩ := map_block (P := P) H (hm (by simp)) hg
        have hw : writable (s.h.get b) = true := by rw [hg]; rfl
        split
        · rename_i i v0 b0 k' hf
          cases hsk : sameKey k' k with
          | false => exact trivial
          | true =>
            rw [cond_true]
            obtain ⟨hc, rr, hr, hfr⟩ := lookup_core hE H hk hok her hf
            obtain ⟨ent, _, hget, hrr, _, hborn, hkey⟩ := hfr
            subst hrr
            obtain ⟨hkk, hbits⟩ := sameKey_eq (ρ := ρ) hsk
            subst hkk
            have hkv := hk ((eqT_bad (keyOk_some hok).1).1)
            obtain ⟨hkeq, hsb⟩ := hbits 9999 ent.key vk hkey hkv
            rw [Nat.sub_zero, Array.getElem?_toList] at hget
            refine ⟨ρ, putB w r (.map (es'.modify i fun e => { e with key := vk, val := vv }) clock), hres _ ?_, H.put hb hw ⟨_, rfl, ?_⟩, Ext.put H hb _, Below.putB hN⟩
            · subst hvm
              simp only [Instr.mapUpdate, Sem.run_bind, run_underlying hu, Result.andThen_ok, hgo, hc, hr, hget, Option.map_some, Option.getD_some, run_keyStays hsb, hso]
            · rw [Array.toList_modify]
              refine ER.modify (k0 := k') i her fun x e1 hx he => ?_
              obtain ⟨_, g2⟩ := keyFind_get hf
              rw [Nat.sub_zero, hx] at g2
              cases g2
              obtain ⟨_, _, q3⟩ := her.get hx he
              exact ⟨hkv, hv, q3⟩
        · rename_i hf
          obtain ⟨hc, rr, hr, hfr⟩ := lookup_core hE H hk hok her hf
          have hrn : rr = none := hfr
          subst hrn
          have hkv := hk ((eqT_bad (keyOk_some hok).1).1)
          refine ⟨ρ, putB w r (.map (es'.push { key := vk, val := vv, born := clock }) (clock + 1)), hres _ ?_, H.put hb hw ⟨_, rfl, ?_⟩, Ext.put H hb _, Below.putB hN⟩
          · subst hvm
            simp only [Instr.mapUpdate, Sem.run_bind, run_underlying hu, Result.andThen_ok, hgo, hc, hr, hso]
          · rw [Array.toList_push]
            exact her.append hkv hv rfl
        · exact trivial
      · exact trivial
  · exact trivial
theorem mapEnt_sound {E : EE} (hE : EOk P E) (H : Rel ρ N s w) {t : TypeId} {m k : SV} {vm vk : Value} (hm : m ≠ .bad → VR ρ m vm) (hk : k ≠ .bad → VR ρ k vk) (hk0 : ¬ k0) {res : Result Next}
    (hres : ∀ v w', (Instr.mapEntry t vm vk).run P w = .ok v w' → res = .ok (.value v) w') : RR P ρ N s w k0 res (mapEnt E P s t m k) := by
  unfold mapEnt
  split
  · rename_i kt e b hu
    cases hok : keyOk E P s.h kt k with
    | false => exact trivial
    | true =>
      rw [cond_true]
      split
      · rename_i es clock hg
        obtain ⟨r, base, e', es', hvm, hb, ho, her, hgo, hso, hN⟩ := map_block (P := P) H (hm (by simp)) hg
        have hw : writable (s.h.get b) = true := by rw [hg]; rfl
        split
        · rename_i i v0 b0 k' hf
          cases hsk : sameKey k' k with
          | false => exact trivial
          | true =>
            rw [cond_true]
            obtain ⟨hc, rr, hr, hfr⟩ := lookup_core hE H hk hok her hf
            obtain ⟨ent, _, hget, hrr, hvv, hborn, hkey⟩ := hfr
            subst hrr
            obtain ⟨hkk, hbits⟩ := sameKey_eq (ρ := ρ) hsk
            subst hkk
            have hkv := hk ((eqT_bad (keyOk_some hok).1).1)
            obtain ⟨hkeq, hsb⟩ := hbits 9999 ent.key vk hkey hkv
            rw [Nat.sub_zero, Array.getElem?_toList] at hget
            refine ⟨ρ, .tuple #[ent.val, .int .i64 b0], putB w r (.map (es'.modify i fun e => { e with key := vk }) clock), hres _ _ ?_, tup2 hvv (vrInt _ _), H.put hb hw ⟨_, rfl, ?_⟩, Ext.put H hb _, Below.putB hN, fun h => absurd h hk0⟩
            · subst hvm
              simp only [Instr.mapEntry, Sem.run_bind, run_underlying hu, Result.andThen_ok, hgo, hc, hr, hget, Option.map_some, Option.getD_some, run_keyStays hsb, hso, Sem.run_pure, goInt, hborn]
            · rw [Array.toList_modify]
              have hid : modAt i v0 es = es := by
                obtain ⟨_, g2⟩ := keyFind_get hf
                rw [Nat.sub_zero] at g2
                exact modAt_same g2
              rw [← hid]
              refine ER.modify (k0 := k') i her fun x e1 hx he => ?_
              obtain ⟨_, g2⟩ := keyFind_get hf
              rw [Nat.sub_zero, hx] at g2
              cases g2
              obtain ⟨_, q2, q3⟩ := her.get hx he
              exact ⟨hkv, q2, q3⟩
        · rename_i hf
          obtain ⟨hc, rr, hr, hfr⟩ := lookup_core hE H hk hok her hf
          have hrn : rr = none := hfr
          subst hrn
          have hkv := hk ((eqT_bad (keyOk_some hok).1).1)
          split
          · exact trivial
          · rename_i z hz
            obtain ⟨zv, z1, z2⟩ := zero_run (P := P) (t := e) rfl (fun e' => hz e') ρ
            refine ⟨ρ, .tuple #[zv, .int .i64 clock], putB w r (.map (es'.push { key := vk, val := zv, born := clock }) (clock + 1)), hres _ _ ?_, tup2 z2 (vrInt _ _), H.put hb hw ⟨_, rfl, ?_⟩, Ext.put H hb _, Below.putB hN, fun h => absurd h hk0⟩
            · subst hvm
              simp only [Instr.mapEntry, Sem.run_bind, run_underlying hu, Result.andThen_ok, hgo, hc, hr, z1, hso, Sem.run_pure, goInt]
            · rw [Array.toList_push]
              exact her.append hkv z2 rfl
        · exact trivial
      · exact trivial
  · exact trivial

theorem setBorn_sound {ρ : Rho} {n : Nat} {v : SV} {vv : Value} (hv : VR ρ v vv) : ∀ {es out : List (SV × SV × Nat)} {l : List MapEntry}, setBorn n v es = some out → ER ρ es l →
    ∃ i, l.findIdx? (fun e => (e.born : Int) == (n : Int)) = some i ∧ ER ρ out (l.modify i fun e => { e with val := vv })
  | [], out, l, h, _ => by simp [setBorn] at h
  | (k, u, b) :: es, out, l, h, he => by
    simp only [ER] at he
    obtain ⟨e, es', h1, h2, h3, h4, rfl⟩ := he
    simp only [setBorn] at h
    cases hb : Nat.beq b n with
    | true =>
      rw [hb, cond_true] at h
      cases h
      have hbn := Nat.eq_of_beq_eq_true hb
      refine ⟨0, ?_, ?_⟩
      · simp only [List.findIdx?_cons]
        have : ((e.born : Int) == (n : Int)) = true := by rw [h3, beq_iff_eq]; show ((b : Nat) : Int) = n; rw [hbn]
        rw [this]; rfl
      · simp only [List.modify_zero_cons, ER]
        exact ⟨{ e with val := vv }, es', h1, hv, h3, h4, rfl⟩
    | false =>
      rw [hb, cond_false] at h
      split at h
      · rename_i l' hl'
        cases h
        obtain ⟨i, h5, h6⟩ := setBorn_sound hv hl' h4
        refine ⟨i + 1, ?_, ?_⟩
        · simp only [List.findIdx?_cons]
          have : ((e.born : Int) == (n : Int)) = false := by
            rw [beq_eq_false_iff_ne, h3]
            intro e1
            have : b = n := by exact_mod_cast e1
            subst this
            simp at hb
          rw [this]
          simp [h5]
        · simp only [List.modify_succ_cons, ER]
          exact ⟨e, _, h1, h2, h3, h6, rfl⟩
      · cases h
theorem entSt_sound (H : Rel ρ N s w) {t : TypeId} {m st v : SV} {vm vst vv : Value} (hm : m ≠ .bad → VR ρ m vm) (hst : ∀ n, asN st = some n → ∃ k, vst = .int k n) (hv : VR ρ v vv) {res : Result Next}
    (hres : ∀ w', (Instr.entryStore t vm vst vv).run P w = .ok () w' → res = .ok .skip w') : RR P ρ N s w k0 res (entSt s m st v) := by
  unfold entSt
  split
  · rename_i b n hn
    split
    · rename_i es clock hg
      split
      · rename_i out ho2
        obtain ⟨r, base, e', es', hvm, hb, ho, her, hgo, hso, hN⟩ := map_block (P := P) H (hm (by simp)) hg
        have hw : writable (s.h.get b) = true := by rw [hg]; rfl
        obtain ⟨i, h5, h6⟩ := setBorn_sound hv ho2 her
        obtain ⟨k, hk⟩ := hst n hn
        refine ⟨ρ, putB w r (.map (es'.modify i fun e => { e with val := vv }) clock), hres _ ?_, H.put hb hw ⟨_, rfl, by rw [Array.toList_modify]; exact h6⟩, Ext.put H hb _, Below.putB hN⟩
        subst hvm hk
        have h5' : es'.findIdx? (fun e => (e.born : Int) == (n : Int)) = some i := by rcases es' with ⟨l⟩; simpa using h5
        simp only [Instr.entryStore, Sem.run_bind, hgo, Result.andThen_ok, asInt, asIntOf, Sem.run_pure, h5', hso]
      · exact trivial
    · exact trivial
  · exact trivial
end Go.Sh
