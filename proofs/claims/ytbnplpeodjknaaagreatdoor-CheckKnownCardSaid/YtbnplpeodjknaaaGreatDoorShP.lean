/- Part of a proof that a closed law answers true: the evaluator of the first text is sound; this text is one step of it. No condition. -/
import Derived.Test.YtbnplpeodjknaaaGreatDoorShO
import Derived.Orders
set_option linter.unusedSectionVars false
set_option linter.unusedSimpArgs false
set_option linter.unusedVariables false
namespace Go.Sh
variable [Opq]
open Go.RowKit (Below)
variable {I : Rho → World → Prop}

/-! ## rows -/
theorem befores_len : ∀ (os : List Oper) (l : List Nat), (befores os l).length = l.length + os.length
  | [], l => by simp [befores]
  | o :: os, l => by
    simp only [befores, befores_len os, List.length_append, List.length_cons, List.length_nil]
    omega
theorem rowsFrom_get : ∀ (os : List Oper) (bs : List Nat) (i k : Nat) (r : Row), (rowsFrom i os bs)[k]? = some r → r.i = i + k ∧ os[k]? = some r.o ∧ r.kind = kindOp r.o.op
  | [], bs, i, k, r, h => by simp [rowsFrom] at h
  | o :: os, [], i, k, r, h => by simp [rowsFrom] at h
  | o :: os, b :: bs, i, k, r, h => by
    simp only [rowsFrom] at h
    cases k with
    | zero => simp at h; subst h; exact ⟨rfl, rfl, rfl⟩
    | succ k =>
      simp only [List.getElem?_cons_succ] at h
      obtain ⟨h1, h2, h3⟩ := rowsFrom_get os bs (i + 1) k r h
      exact ⟨by omega, by simpa using h2, h3⟩
theorem rowsFrom_len : ∀ (os : List Oper) (bs : List Nat) (i : Nat), bs.length = os.length → (rowsFrom i os bs).length = os.length
  | [], bs, i, h => by simp [rowsFrom]
  | o :: os, [], i, h => by simp at h
  | o :: os, b :: bs, i, h => by simp only [rowsFrom, List.length_cons, rowsFrom_len os bs (i + 1) (by simpa using h)]
theorem rowsOf_get {ops : Array Oper} {k : Nat} {r : Row} (h : (rowsOf ops)[k]? = some r) : r.i = k ∧ ops[k]? = some r.o ∧ r.kind = kindOp r.o.op := by
  obtain ⟨h1, h2, h3⟩ := rowsFrom_get _ _ _ _ _ h
  exact ⟨by omega, by rw [← Array.getElem?_toList]; exact h2, h3⟩
theorem rowsOf_len (ops : Array Oper) : (rowsOf ops).length = ops.size := by
  unfold rowsOf
  rw [rowsFrom_len _ _ _ (by rw [befores_len]; simp)]
  simp
theorem maskOf_bit (l : List Nat) : ∀ (es : List Edge) (m j : Nat), (es.foldl (fun m e => cond (Region.binds .any e) (m ||| 2 ^ e.on ||| l.getD e.on 0) m) m).testBit j = true ↔
    m.testBit j = true ∨ ∃ e ∈ es, Region.binds .any e = true ∧ (j = e.on ∨ (l.getD e.on 0).testBit j = true)
  | [], m, j => by simp
  | e :: es, m, j => by
    simp only [List.foldl_cons]
    rw [maskOf_bit l es]
    cases hb : Region.binds .any e with
    | false => simp [hb]
    | true =>
      simp only [cond_true, Nat.testBit_or, Bool.or_eq_true, Nat.testBit_two_pow, decide_eq_true_eq, List.mem_cons, exists_eq_or_imp, hb, true_and]
      constructor
      · rintro (((h | h) | h) | h)
        · exact .inl h
        · exact .inr (.inl (.inl h.symm))
        · exact .inr (.inl (.inr h))
        · exact .inr (.inr h)
      · rintro (h | (h | h) | h)
        · exact .inl (.inl (.inl h))
        · exact .inl (.inl (.inr h.symm))
        · exact .inl (.inr h)
        · exact .inr h

/-- what the check of a region's rows says -/
structure RF (ops : Array Oper) (rows : List Row) : Prop where
  len : rows.length = ops.size
  at' : ∀ (k : Nat) (r : Row), rows[k]? = some r → r.i = k ∧ ops[k]? = some r.o ∧ r.kind = kindOp r.o.op
  edge : ∀ (k : Nat) (r : Row) (e : Edge), rows[k]? = some r → e ∈ r.o.after → Region.binds .any e = true → e.on < k ∧ r.before.testBit e.on = true
  why : ∀ (k : Nat) (r : Row) (j : Nat), rows[k]? = some r → r.before.testBit j = true → ∃ e ∈ r.o.after, Region.binds .any e = true ∧ e.on < k ∧ (j = e.on ∨ ∃ q, rows[e.on]? = some q ∧ q.before.testBit j = true)
  closed : ∀ (k : Nat) (r : Row) (j : Nat) (q : Row), rows[k]? = some r → rows[j]? = some q → r.before.testBit j = true → j < k ∧ ∀ m, q.before.testBit m = true → r.before.testBit m = true
  uniq : ∀ (k : Nat) (r : Row) (j : Nat) (q : Row) (t : Tmp), rows[k]? = some r → rows[j]? = some q → j ≠ k → q.o.dst = some t → r.o.dst ≠ some t
  reads : ∀ (k : Nat) (r : Row) (j : Nat) (q : Row) (t : Tmp), rows[k]? = some r → rows[j]? = some q → j ≠ k → q.o.dst = some t → t ∈ r.o.looksAt ops → r.before.testBit j = true ∨ q.before.testBit k = true
theorem sub_of_or {a b : Nat} (h : Nat.beq (a ||| b) b = true) (m : Nat) (hm : a.testBit m = true) : b.testBit m = true := by
  have := Nat.eq_of_beq_eq_true h
  rw [← this, Nat.testBit_or, hm]; rfl
theorem RF.of_check {ops : Array Oper} (h : (rowsOf ops).all (rowOk ops (rowsOf ops)) = true) : RF ops (rowsOf ops) := by
  have hall : ∀ (k : Nat) (r : Row), (rowsOf ops)[k]? = some r → edgesOk (rowsOf ops) r = true ∧ ∀ (j : Nat) (q : Row), (rowsOf ops)[j]? = some q → pairOk ops q r = true := by
    intro k r hr
    have := List.all_eq_true.1 h r (List.mem_of_getElem? hr)
    unfold rowOk at this
    rw [Bool.and_eq_true] at this
    exact ⟨this.1, fun j q hq => List.all_eq_true.1 this.2 q (List.mem_of_getElem? hq)⟩
  have hedges : ∀ (k : Nat) (r : Row), (rowsOf ops)[k]? = some r → (∀ e ∈ r.o.after, Region.binds .any e = true → e.on < k) ∧ ∀ j, r.before.testBit j = true ↔ ∃ e ∈ r.o.after, Region.binds .any e = true ∧ (j = e.on ∨ (((rowsOf ops).map (fun x : Row => x.before)).getD e.on 0).testBit j = true) := by
    intro k r hr
    have h1 := (hall k r hr).1
    unfold edgesOk at h1
    rw [Bool.and_eq_true] at h1
    have hi := (rowsOf_get hr).1
    constructor
    · intro e he hb
      have := List.all_eq_true.1 h1.1 e (by simpa using he)
      rw [hb, cond_true, hi] at this
      exact Nat.le_of_ble_eq_true this
    · intro j
      have hm := Nat.eq_of_beq_eq_true h1.2
      rw [← hm]
      unfold maskOf
      rw [maskOf_bit]
      simp
  have hget : ∀ (i j : Nat), (((rowsOf ops).map (fun x : Row => x.before)).getD i 0).testBit j = true → ∃ q, (rowsOf ops)[i]? = some q ∧ q.before.testBit j = true := by
    intro i j hb
    rw [List.getD_eq_getElem?_getD, List.getElem?_map] at hb
    cases hq : (rowsOf ops)[i]? with
    | none => rw [hq] at hb; simp at hb
    | some q => rw [hq] at hb; exact ⟨q, rfl, by simpa using hb⟩
  refine ⟨rowsOf_len ops, fun k r hr => rowsOf_get hr, ?_, ?_, ?_, ?_, ?_⟩
  · intro k r e hr he hb
    exact ⟨(hedges k r hr).1 e he hb, ((hedges k r hr).2 _).2 ⟨e, he, hb, .inl rfl⟩⟩
  · intro k r j hr hj
    obtain ⟨e, he, hb, hor⟩ := ((hedges k r hr).2 j).1 hj
    exact ⟨e, he, hb, (hedges k r hr).1 e he hb, hor.imp id (hget _ _)⟩
  · intro k r j q hr hq hj
    have := (hall k r hr).2 j q hq
    unfold pairOk at this
    rw [Bool.and_eq_true] at this
    have h1 := this.1
    rw [(rowsOf_get hq).1, hj, cond_true, Bool.and_eq_true, (rowsOf_get hr).1] at h1
    exact ⟨Nat.le_of_ble_eq_true h1.1, fun m hm => sub_of_or h1.2 m hm⟩
  · intro k r j q t hr hq hne hd
    have := (hall k r hr).2 j q hq
    unfold pairOk at this
    rw [Bool.and_eq_true] at this
    have h1 := this.2
    rw [(rowsOf_get hq).1, (rowsOf_get hr).1] at h1
    have hb : Nat.beq j k = false := by
      cases hbb : Nat.beq j k with
      | false => rfl
      | true => exact absurd (Nat.eq_of_beq_eq_true hbb) hne
    rw [hb, cond_false, Bool.and_eq_true] at h1
    intro he
    have h2 := h1.1
    rw [hd, he] at h2
    simp [dstNe] at h2
  · intro k r j q t hr hq hne hd ht
    have := (hall k r hr).2 j q hq
    unfold pairOk at this
    rw [Bool.and_eq_true] at this
    have h1 := this.2
    rw [(rowsOf_get hq).1, (rowsOf_get hr).1] at h1
    have hb : Nat.beq j k = false := by
      cases hbb : Nat.beq j k with
      | false => rfl
      | true => exact absurd (Nat.eq_of_beq_eq_true hbb) hne
    rw [hb, cond_false, Bool.and_eq_true] at h1
    have h2 := h1.2
    cases hor : (r.before.testBit j || q.before.testBit k) with
    | true => rw [Bool.or_eq_true] at hor; exact hor
    | false =>
      rw [hor, cond_false, hd] at h2
      simp [notRead] at h2
      exact absurd ht h2

/-! ## the reading of a guard -/
theorem bool_of {ρ : Rho} {x : SV} {v : Value} {want r : Bool} (h : isBool want x = some r) (hv : VR ρ x v) : (match (generalizing := false) (some v : Option Value) with | some (.bool b) => some b | _ => none) = some want ↔ r = true := by
  cases x <;> simp only [isBool] at h <;> try (cases h; done)
  case bool b =>
    cases h
    simp only [VR] at hv
    subst hv
    rw [eqB_eq]
    simp
  all_goals
    cases h
    simp only [VR] at hv
    first
      | (subst hv; simp; done)
      | (obtain ⟨_, h, _⟩ := hv; subst h; simp; done)
      | (obtain ⟨_, _, h⟩ := hv; subst h; simp; done)
      | (obtain ⟨_, _, _, _, h⟩ := hv; subst h; simp; done)
      | (obtain ⟨_, _, _, _, _, _, _, h⟩ := hv; subst h; simp; done)
      | (subst hv; rename_i i; rcases Opq.shape i with ⟨_, hs⟩ | ⟨_, _, _, hs⟩ | ⟨_, _, hs⟩ <;> rw [hs] <;> simp; done)
theorem wanted_sound {ρ : Rho} {ops : Array Oper} {o : Oper} {env : En} {a : Act} {r : Bool} (h : wantedS o.guard ops env = some r)
    (he : ∀ t, t ∈ o.looksAt ops → env.get t ≠ .bad → ∃ v, a.tmps[t]? = some v ∧ VR ρ (env.get t) v) : Region.wanted o (yielded ops a.tmps) = r := by
  unfold wantedS at h
  unfold Region.wanted
  cases hg : o.guard with
  | none => rw [hg] at h; simp at h; subst h; rfl
  | some gw =>
    obtain ⟨j, want⟩ := gw
    rw [hg] at h
    simp only at h
    cases hd : dstOf ops j with
    | none => rw [hd] at h; simp at h
    | some t =>
      rw [hd] at h
      simp only at h
      have hdj : (ops[j]?).bind (·.dst) = some t := by
        unfold dstOf at hd
        cases ho : ops[j]? with
        | none => rw [ho] at hd; simp at hd
        | some oj => rw [ho] at hd; simpa using hd
      have hlook : t ∈ o.looksAt ops := by
        unfold Oper.looksAt
        rw [hg]
        simp [hdj]
      have hb : env.get t ≠ .bad := fun e => by rw [e] at h; simp [isBool] at h
      obtain ⟨v, h1, h2⟩ := he t hlook hb
      have := bool_of h h2
      simp only [yielded, hdj, Option.bind_some, h1]
      cases r with
      | true => rw [beq_iff_eq]; exact this.2 rfl
      | false =>
        rw [beq_eq_false_iff_ne]
        intro e
        have := this.1 e
        cases this
end Go.Sh
