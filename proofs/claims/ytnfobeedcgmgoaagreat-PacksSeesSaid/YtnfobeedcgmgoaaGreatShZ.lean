/- Part of a proof that a closed law answers true: the evaluator of the first text is sound; this text is one step of it. No condition. -/
import Derived.Test.YtnfobeedcgmgoaaGreatShDef
import Derived.Laws.Externs
namespace Go.Sh
open Go.RowKit (Below)
variable {I : Rho → World → Prop}
variable {P : Program} {E : TypeId → Bool} {callF : CallF}

theorem back_sound {ρ ρ' : Rho} {N : Bound I} {s s' : St} {w w' : World} {kV kP : KV} {x : SV} {v : Value} (H : Rel ρ N s w) (hv : VR ρ' x v) (H' : Rel ρ' N s' w') (hE : Ext ρ ⟨s.h, s.nx, big⟩ ρ' s') (hB : Below N w w') (h : backTo s kV x s' = true) :
    QV ρ s w N kV kP (.returned v) w' := by
  unfold backTo at h
  cases hc : (scalV x && Nat.ble s.nx s'.lo) with
  | true =>
    rw [hc, cond_true] at h
    rw [Bool.and_eq_true] at hc
    exact ⟨ρ, s, x, scalV_VR hc.1 hv, H.back H' hE (Nat.le_of_ble_eq_true hc.2) hB, Ext.refl ρ s, hB, h⟩
  | false =>
    rw [hc, cond_false] at h
    exact ⟨ρ', ⟨s'.h, s'.nx, minN s.lo s'.lo⟩, x, hv, H'.lo _, hE.of_big, hB, h⟩
theorem body_sound (hP : PH P E) (hC : CallSound I P callF) {ih : IH} (hI : CodeSound I P ih) {f : FuncId} {args : List SV} {s : St} {kV kP : KV} (h : bodyS E P ih callF f args s kV kP = true) {ρ : Rho} {N : Bound I} {w : World} {args' : List Value} (H : Rel ρ N s w) (hG : Glob P.globals.size ρ) (hargs : VRs ρ args args') :
    (callFunc f args'.toArray).run P w = .ok (.enter f args'.toArray) w ∧ Calls P f args'.toArray w (QV ρ s w N kV kP) := by
  unfold bodyS at h
  split at h
  · rename_i fn c hb
    obtain ⟨hf, hbody, hok, hname⟩ := enter_body hb
    cases hn : Nat.ble args.length fn.ntmps with
    | false => rw [hn] at h; simp [failB] at h
    | true =>
      rw [hn, cond_true] at h
      have hn' := Nat.le_of_ble_eq_true hn
      refine ⟨by simp [callFunc, hf, hname, hbody], ?_⟩
      refine calls_of_wp_defers hf hbody ?_
      have hl := hargs.len
      have hF : FrR ρ fn.ntmps ⟨bindArgs args 0 .e, []⟩ { tmps := args'.toArray ++ Array.replicate (fn.ntmps - args'.toArray.size) undef, defers := [] } :=
        ⟨args_env hargs fn.ntmps, by simp; omega, rfl⟩
      have hret : ∀ (ρ' : Rho) (s' : St) (w' : World) (x : SV) (v : Value), VR ρ' x v → Rel ρ' N s' w' → Ext ρ ⟨s.h, s.nx, big⟩ ρ' s' → Below N w w' → backTo s kV x s' = true → QV ρ s w N kV kP (.returned v) w' :=
        fun ρ' s' w' x v h1 h2 h3 h4 h5 => back_sound H h1 h2 h3 h4 h5
      have hpan : ∀ (ρ' : Rho) (s' : St) (w' : World) (x : SV) (v : Value), VR ρ' x v → Rel ρ' N s' w' → Ext ρ ⟨s.h, s.nx, big⟩ ρ' s' → Below N w w' → kP x ⟨s'.h, s'.nx, minN s.lo s'.lo⟩ = true → QV ρ s w N kV kP (.panicked [{ v, recovered := false }]) w' :=
        fun ρ' s' w' x v h1 h2 h3 h4 h5 => ⟨ρ', ⟨s'.h, s'.nx, minN s.lo s'.lo⟩, x, v, rfl, h1, h2.lo _, h3.of_big, h4, h5⟩
      refine wp_mono (hI c _ _ _ _ h ρ N fn.ntmps _ w hok hF (H.lo big) hG) fun e a1 w1 he => ?_
      have ret : ∀ {a1 : Act} {w1 : World}, (∃ ρ' fr' s', FrR ρ' fn.ntmps fr' a1 ∧ Rel ρ' N s' w1 ∧ Ext ρ ⟨s.h, s.nx, big⟩ ρ' s' ∧ Below N w w1 ∧ leaveX E P ih callF fn s kV kP .ret fr' s' = true) → Leaves P fn a1.tmps (QV ρ s w N kV kP) a1.defers .returning w1 := by
        rintro a1 w1 ⟨ρ', fr', s', h1, h2, h3, h4, h5⟩
        simp only [leaveX] at h5
        exact leave_sound hP hC hI hret hpan fr'.ds (.nili, false) s' h5 ρ' a1.defers .returning w1 h1.env h1.size h1.dfr (.inl ⟨rfl, rfl⟩) h2 (hG.mono h3.le) h3 h4
      cases e with
      | normal => exact ret he
      | ret => exact ret he
      | exit i =>
        obtain ⟨ρ', fr', s', h1, h2, h3, h4, h5⟩ := he
        simp [leaveX, failB] at h5
      | panic chain =>
        obtain ⟨ρ', fr', s', x, v, rfl, hv, h1, h2, h3, h4, h5⟩ := he
        simp only [leaveX] at h5
        cases hnx : isNili x with
        | true => rw [hnx] at h5; simp [failB] at h5
        | false =>
          rw [hnx, cond_false] at h5
          exact leave_sound hP hC hI hret hpan fr'.ds (x, false) s' h5 ρ' a1.defers _ w1 h1.env h1.size h1.dfr (.inr ⟨hnx, v, hv, rfl⟩) h2 (hG.mono h3.le) h3 h4
      | goto l => exact he.elim
      | outgrown => exact he.elim
  · simp [failB] at h

/-! ## externs, and calls of which it is known what they give -/
/-- what is asked of an extern -/
def RowOk (I : Rho → World → Prop) (P : Program) (f : FuncId) (k : XK) : Prop := ∀ (args : List SV) (s : St) (kV kP : KV), extS k args s kV = true →
  ∀ (ρ : Rho) (N : Bound I) (w : World) (args' : List Value), Rel ρ N s w → Glob P.globals.size ρ → VRs ρ args args' →
    ∃ v w', (callFunc f args'.toArray).run P w = .ok (.value v) w' ∧ QV ρ s w N kV kP (.returned v) w'
/-- what is asked at the end of a row's call -/
def RowEnd (ρ : Rho) (w w' : World) (r : KRow) (v : Value) : Prop := match r.news with
  | none => VR ρ r.res v
  | some l => ∃ ρ' : Rho, ρ.le ρ' ∧ VR ρ' r.res v ∧ (∀ b, r.nx + l.length ≤ b → ρ' b = none) ∧ (∀ b, b < r.nx → ρ' b = ρ b) ∧ (∀ b q base e, ρ' b = some (q, base, e) → q < w'.heap.size) ∧
      (∀ i blk, l[i]? = some blk → ∀ q base e, ρ' (r.nx + i) = some (q, base, e) → BR ρ' base e blk w'.heap[q]? ∧ (isNone blk = false → w.heap.size ≤ q)) ∧
      (∀ i j blk blk', l[i]? = some blk → l[j]? = some blk' → isNone blk = false → isNone blk' = false → ∀ q base e base' e', ρ' (r.nx + i) = some (q, base, e) → ρ' (r.nx + j) = some (q, base', e') → i = j) ∧
      (∀ i : Nat, ∀ blk, l[i]? = some blk → isNone blk = false → writable blk = true)
/-- what is asked of a row of calls -/
structure KRowOk (I : Rho → World → Prop) (P : Program) (f : FuncId) (r : KRow) : Prop where
  body : (bodyOf P f).isSome = true
  calls : ∀ (ρ : Rho) (w : World) (args' : List Value), I ρ w → Glob P.globals.size ρ → (∀ b, r.nx ≤ b → ρ b = none) → (∀ b q base e, ρ b = some (q, base, e) → q < w.heap.size) →
    (∀ x ∈ r.bs, ∀ q base e, ρ x.1 = some (q, base, e) → BR ρ base e (.ro x.2.1 x.2.2) w.heap[q]?) → VRs ρ r.args args' →
    Calls P f args'.toArray w (fun e w' => ∃ v, e = .returned v ∧ Below w.heap.size w w' ∧ RowEnd ρ w w' r v)
/-- what is asked of the table -/
structure XOk (I : Rho → World → Prop) (P : Program) (X : FuncId → Option XK) : Prop where
  ext : ∀ (f : FuncId) (k : XK), X f = some k → isKnown k = false → RowOk I P f k
  known : ∀ (f : FuncId) (rows : List KRow), X f = some (.known rows) → ∀ r ∈ rows, KRowOk I P f r
theorem BR.ro {ρ : Rho} {base e ty : Nat} {cs : List SV} {blk : SBlk} {o : Option Obj} (h : roFits ty cs blk = true) (hB : BR ρ base e blk o) : BR ρ base e (.ro ty cs) o := by
  cases blk <;> simp only [roFits] at h <;> try cases h
  · rename_i t ds
    cases ht : Nat.beq t ty with
    | false => rw [ht] at h; cases h
    | true =>
      rw [ht, cond_true] at h
      obtain rfl := samesF_eq _ _ _ h
      obtain ⟨rc, h1, _, _, _, h4⟩ := hB
      exact ⟨rc, _, _, h1, h4⟩
  · rename_i t ds ub fz st
    cases ht : Nat.beq t ty with
    | false => rw [ht] at h; cases h
    | true =>
      rw [ht, cond_true] at h
      obtain rfl := samesF_eq _ _ _ h
      obtain ⟨rc, fz', h1, _, _, _, h4, _⟩ := hB
      exact ⟨rc, _, _, h1, h4⟩
  · rename_i t ds
    cases ht : Nat.beq t ty with
    | false => rw [ht] at h; cases h
    | true =>
      rw [ht, cond_true] at h
      obtain rfl := samesF_eq _ _ _ h
      exact hB
theorem blocksFit_mem {h : Hp} : ∀ {bs : List (Nat × Nat × List SV)}, blocksFit h bs = true → ∀ x ∈ bs, roFits x.2.1 x.2.2 (h.get x.1) = true
  | [], _, x, hx => by cases hx
  | b :: bs, hf, x, hx => by
    simp only [blocksFit] at hf
    cases hb : roFits b.2.1 b.2.2 (h.get b.1) with
    | false => rw [hb] at hf; cases hf
    | true =>
      rw [hb, cond_true] at hf
      rcases List.mem_cons.1 hx with rfl | hx
      · exact hb
      · exact blocksFit_mem hf x hx
theorem Rel.later {ρ : Rho} {N : Bound I} {s : St} {w w' : World} (H : Rel ρ N s w) (hB : Below w.heap.size w w') : Rel ρ N s w' where
  fresh := H.fresh
  live b r base e hb := by rw [hB.block r (H.bound _ _ _ _ hb)]; exact H.live _ _ _ _ hb
  bound b r base e hb := Nat.lt_of_lt_of_le (H.bound _ _ _ _ hb) hB.size
  low := H.low
  inj := H.inj
  size := Nat.le_trans H.size hB.size
  inv := N.stable _ _ _ _ H.inv (Rho.le_refl ρ) (hB.mono H.size)
theorem findRow_some {args : List SV} {s : St} {v : KRow} : ∀ {rows : List KRow}, findRow args s rows = some v → v ∈ rows ∧ s.nx = v.nx ∧ args = v.args ∧ blocksFit s.h v.bs = true
  | [], h => by simp [findRow] at h
  | r :: rs, h => by
    simp only [findRow] at h
    have tl : findRow args s rs = some v → v ∈ r :: rs ∧ s.nx = v.nx ∧ args = v.args ∧ blocksFit s.h v.bs = true := fun h => by
      obtain ⟨h1, h2⟩ := findRow_some h
      exact ⟨List.mem_cons_of_mem _ h1, h2⟩
    cases hn : Nat.beq s.nx r.nx with
    | false => rw [hn, cond_false] at h; exact tl h
    | true =>
      rw [hn, cond_true] at h
      cases hf : rowFits r args s with
      | false => rw [hf, cond_false] at h; exact tl h
      | true =>
        rw [hf, cond_true] at h
        unfold rowFits at hf
        cases ha : sameF.samesF 1000 args r.args with
        | false => rw [ha] at hf; cases hf
        | true =>
          rw [ha, cond_true] at hf
          cases h
          exact ⟨List.mem_cons_self, Nat.eq_of_beq_eq_true hn, samesF_eq _ _ _ ha, hf⟩
theorem pushAll_nx : ∀ (l : List SBlk) (s : St), (pushAll l s).nx = s.nx + l.length
  | [], s => by simp [pushAll]
  | b :: l, s => by
    simp only [pushAll, List.length_cons]
    rw [pushAll_nx l (s.new b)]
    show Nat.succ s.nx + l.length = _
    omega
theorem pushAll_lo : ∀ (l : List SBlk) (s : St), (pushAll l s).lo = s.lo
  | [], s => rfl
  | b :: l, s => by simp only [pushAll]; rw [pushAll_lo l (s.new b)]; rfl
theorem pushAll_old : ∀ (l : List SBlk) (s : St) (b : Nat), b < s.nx → (pushAll l s).h.get b = s.h.get b
  | [], s, b, _ => rfl
  | x :: l, s, b, hb => by
    simp only [pushAll]
    rw [pushAll_old l (s.new x) b (by show b < Nat.succ s.nx; omega)]
    exact Hp.get_set_ne _ _ _ _ (by omega)
theorem pushAll_new : ∀ (l : List SBlk) (s : St) (i : Nat) (blk : SBlk), l[i]? = some blk → (pushAll l s).h.get (s.nx + i) = blk ∨ (pushAll l s).h.get (s.nx + i) = .none
  | [], s, i, blk, h => by simp at h
  | x :: l, s, 0, blk, h => by
    simp only [List.getElem?_cons_zero, Option.some.injEq] at h
    subst h
    simp only [pushAll, Nat.add_zero]
    rw [pushAll_old l (s.new x) s.nx (by show s.nx < Nat.succ s.nx; omega)]
    exact Hp.get_set_eq _ _ _
  | x :: l, s, i + 1, blk, h => by
    simp only [List.getElem?_cons_succ] at h
    have := pushAll_new l (s.new x) i blk h
    simp only [pushAll]
    have e : (s.new x).nx + i = s.nx + (i + 1) := by show Nat.succ s.nx + i = _; omega
    rw [e] at this
    exact this
/-- a row's own blocks, beside what was there -/
theorem Rel.pushed {ρ ρ' : Rho} {N : Bound I} {s : St} {w w' : World} {r : KRow} {l : List SBlk} (H : Rel ρ N s w) (hn : s.nx = r.nx) (hB : Below w.heap.size w w') (hle : ρ.le ρ')
    (h1 : ∀ b, r.nx + l.length ≤ b → ρ' b = none) (h2 : ∀ b, b < r.nx → ρ' b = ρ b) (h3 : ∀ b q base e, ρ' b = some (q, base, e) → q < w'.heap.size)
    (h4 : ∀ i blk, l[i]? = some blk → ∀ q base e, ρ' (r.nx + i) = some (q, base, e) → BR ρ' base e blk w'.heap[q]? ∧ (isNone blk = false → w.heap.size ≤ q))
    (h5 : ∀ i j blk blk', l[i]? = some blk → l[j]? = some blk' → isNone blk = false → isNone blk' = false → ∀ q base e base' e', ρ' (r.nx + i) = some (q, base, e) → ρ' (r.nx + j) = some (q, base', e') → i = j) (_h6 : ∀ i : Nat, ∀ blk, l[i]? = some blk → isNone blk = false → writable blk = true) :
    Rel ρ' N (pushAll l s) w' := by
  have split : ∀ b x, ρ' b = some x → (b < s.nx ∧ ρ b = some x ∧ (pushAll l s).h.get b = s.h.get b) ∨ (∃ i blk, b = r.nx + i ∧ l[i]? = some blk ∧ ((pushAll l s).h.get b = blk ∨ (pushAll l s).h.get b = .none)) := by
    intro b x hb
    by_cases hlt : b < s.nx
    · left
      exact ⟨hlt, by rw [← h2 b (by omega)]; exact hb, pushAll_old l s b hlt⟩
    · right
      have hlt2 : b < r.nx + l.length := by
        rcases Nat.lt_or_ge b (r.nx + l.length) with h | h
        · exact h
        · rw [h1 b h] at hb; cases hb
      have hi : b - r.nx < l.length := by omega
      refine ⟨b - r.nx, l[b - r.nx], by omega, List.getElem?_eq_getElem hi, ?_⟩
      have := pushAll_new l s (b - r.nx) _ (List.getElem?_eq_getElem hi)
      have e : s.nx + (b - r.nx) = b := by omega
      rw [e] at this
      exact this
  refine ⟨?_, ?_, h3, ?_, ?_, Nat.le_trans H.size hB.size, N.stable _ _ _ _ H.inv hle (hB.mono H.size)⟩
  · intro b hb
    rw [pushAll_nx] at hb
    exact h1 b (by omega)
  · intro b q base e hb
    rcases split b _ hb with ⟨hlt, hq, hg⟩ | ⟨i, blk, rfl, hl, hg⟩
    · rw [hg, hB.block q (H.bound _ _ _ _ hq)]
      exact (H.live _ _ _ _ hq).mono hle
    · rcases hg with hg | hg <;> rw [hg]
      · exact (h4 i blk hl q base e hb).1
      · simp [BR]
  · intro b q base e hb hw
    rcases split b _ hb with ⟨hlt, hq, hg⟩ | ⟨i, blk, rfl, hl, hg⟩
    · rw [hg] at hw; exact H.low _ _ _ _ hq hw
    · rcases hg with hg | hg <;> rw [hg] at hw
      · exact Nat.le_trans H.size ((h4 i blk hl q base e hb).2 (isNone_of_writable hw))
      · simp [writable] at hw
  · intro b b' q base e base' e' hb hb' hw hn'
    rcases split b _ hb with ⟨hlt, hq, hg⟩ | ⟨i, blk, rfl, hl, hg⟩ <;> rcases split b' _ hb' with ⟨hlt', hq', hg'⟩ | ⟨j, blk', rfl, hl', hg'⟩
    · rw [hg] at hw; rw [hg'] at hn'
      exact H.inj _ _ _ _ _ _ _ hq hq' hw hn'
    · rcases hg' with hg' | hg' <;> rw [hg'] at hn'
      · have k1 := (h4 j blk' hl' q base' e' hb').2 hn'
        have k2 := H.bound _ _ _ _ hq
        omega
      · simp [isNone] at hn'
    · rcases hg with hg | hg <;> rw [hg] at hw
      · have k1 := (h4 i blk hl q base e hb).2 (isNone_of_writable hw)
        have k2 := H.bound _ _ _ _ hq'
        omega
      · simp [writable] at hw
    · rcases hg with hg | hg <;> rw [hg] at hw
      · rcases hg' with hg' | hg' <;> rw [hg'] at hn'
        · rw [h5 i j blk blk' hl hl' (isNone_of_writable hw) hn' _ _ _ _ _ hb hb']
        · simp [isNone] at hn'
      · simp [writable] at hw
theorem Ext.pushed {ρ ρ' : Rho} {s : St} {r : KRow} {l : List SBlk} (hn : s.nx = r.nx) (hle : ρ.le ρ') (h2 : ∀ b, b < r.nx → ρ' b = ρ b) : Ext ρ s ρ' (pushAll l s) where
  le := hle
  keep b hb hn' := ⟨by rw [h2 b (by omega)]; exact hn', pushAll_old l s b hb⟩
  nx := by rw [pushAll_nx]; omega
  lo := by rw [pushAll_lo]; omega
  same b hb _ := pushAll_old l s b hb
/-- a function with a body is entered -/
theorem enter_of_body {f : FuncId} (h : (bodyOf P f).isSome = true) (args' : Array Value) (w : World) : (callFunc f args').run P w = .ok (.enter f args') w := by
  unfold bodyOf at h
  split at h
  · rename_i fn' hf
    split at h
    · rename_i c' hbody
      cases hc : (codeOk fn'.ntmps P.globals.size c' && !(fn'.name == "runtime.NumGoroutine")) with
      | false => rw [hc] at h; cases h
      | true =>
        rw [Bool.and_eq_true, Bool.not_eq_true'] at hc
        have h1 : fn'.name ≠ "runtime.NumGoroutine" := by simpa using hc.2
        simp [callFunc, hf, h1, hbody]
    · cases h
  · cases h
theorem call_step (hP : PH P E) {X : FuncId → Option XK} (hX : XOk I P X) {ih : IH} (hI : CodeSound I P ih) (hC : CallSound I P callF) : CallSound I P (fun f a s kV kP => callC E X P ih callF f a s kV kP) := by
  intro f args s kV kP h ρ N w args' H hG hargs
  simp only [callC] at h
  split at h
  · rename_i k hk
    cases hkn : isKnown k with
    | false => rw [hkn, cond_false] at h; exact .inr (hX.ext f k hk hkn args s kV kP h ρ N w args' H hG hargs)
    | true =>
      rw [hkn, cond_true] at h
      split at h
      · rename_i r hv
        cases k <;> simp only [isKnown] at hkn <;> try cases hkn
        rename_i rows
        obtain ⟨hr, hn, rfl, hb⟩ := findRow_some (show findRow args s rows = some r from hv)
        obtain ⟨k2, k3⟩ := hX.known f rows hk r hr
        refine .inl ⟨enter_of_body k2 _ _, ?_⟩
        refine (k3 ρ w args' H.inv hG (fun b hb' => H.fresh b (by omega)) H.bound (fun x hx q base e hq => BR.ro (blocksFit_mem hb x hx) (H.live _ _ _ _ hq)) hargs).mono fun e w' he => ?_
        obtain ⟨u, rfl, hB, hu⟩ := he
        obtain ⟨rnx, rargs, rbs, rres, rnews⟩ := r
        cases rnews with
        | none => exact ⟨ρ, s, _, hu, H.later hB, Ext.refl ρ s, hB.mono H.size, h⟩
        | some l =>
          obtain ⟨ρ', hle, hv', h1, h2, h3, h4, h5, h6⟩ := hu
          exact ⟨ρ', pushAll l s, _, hv', H.pushed (r := ⟨rnx, rargs, rbs, rres, some l⟩) hn hB hle h1 h2 h3 h4 h5 h6, Ext.pushed (r := ⟨rnx, rargs, rbs, rres, some l⟩) hn hle h2, hB.mono H.size, h⟩
      · exact .inl (body_sound hP hC hI h H hG hargs)
  · exact .inl (body_sound hP hC hI h H hG hargs)
/-- **The evaluator is sound.** -/
theorem ev_sound (hM : P.follows .mixedOrders = true) (hP : PH P E) {X : FuncId → Option XK} (hX : XOk I P X) : ∀ m : Nat, CodeSound I P (ev E X P m).c ∧ CallSound I P (ev E X P m).f ∧
    (∀ (c : Code) (fr : Fr) (s : St) (kN : KN) (kX : KX), (ev E X P m).c (.loop c) fr s kN kX = true →
      ∀ (ρ : Rho) (N : Bound I) (n : Nat) (a : Act) (w : World), codeOk n P.globals.size c = true → FrR ρ n fr a → Rel ρ N s w → Glob P.globals.size ρ → Code.rounds P c (QC ρ s w N n kN kX) m a w)
  | 0 => ⟨fun c fr s kN kX h => by simp [ev, failB] at h, fun f a s kV kP h => by simp [ev, failB] at h, fun c fr s kN kX h => by simp [ev, failB] at h⟩
  | m + 1 => by
    obtain ⟨h1, h2, h3⟩ := ev_sound hM hP hX m
    obtain ⟨h4, h5⟩ := code_step hM hP h2 h1 h3
    exact ⟨h4, call_step hP hX h1 h2, h5⟩
theorem call_sound_ev (hM : P.follows .mixedOrders = true) (hP : PH P E) {X : FuncId → Option XK} (hX : XOk I P X) {m : Nat} {f : FuncId} {s : St} {kV kP : KV} (_hf : (P.funcs[f]?.bind (·.body)).isSome = true) (hXf : X f = none) (h : (ev E X P (m + 1)).f f [] s kV kP = true)
    {ρ : Rho} {N : Bound I} {w : World} (H : Rel ρ N s w) (hG : Glob P.globals.size ρ) : Calls P f #[] w (QV ρ s w N kV kP) := by
  obtain ⟨h1, h2, h3⟩ := ev_sound hM hP hX m
  have h' : callC E X P (ev E X P m).c (ev E X P m).f f [] s kV kP = true := h
  simp only [callC, hXf] at h'
  exact (body_sound hP h2 h1 h' H hG VRs.nil).2
end Go.Sh
