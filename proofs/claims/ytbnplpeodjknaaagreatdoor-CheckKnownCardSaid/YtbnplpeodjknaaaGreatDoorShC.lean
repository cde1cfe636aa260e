/- Part of a proof that a closed law answers true: the evaluator of the first text is sound; this text is one step of it. No condition. -/
import Derived.Test.YtbnplpeodjknaaaGreatDoorShB
set_option linter.unusedSectionVars false
set_option linter.unusedSimpArgs false
set_option linter.unusedVariables false
namespace Go.Sh
variable [Opq]
open Go.RowKit (Below)

/-! ## lists of cells -/
theorem dropN_eq : ∀ (n : Nat) (l : List SV), dropN n l = l.drop n
  | 0, l => by simp [dropN]
  | n + 1, [] => by simp [dropN]
  | n + 1, x :: l => by simp [dropN, dropN_eq n l]
theorem takeN_some : ∀ (n : Nat) (l ds : List SV), takeN n l = some ds → ds = l.take n ∧ n ≤ l.length
  | 0, l, ds, h => by simp [takeN] at h; subst h; simp
  | n + 1, [], ds, h => by simp [takeN] at h
  | n + 1, x :: l, ds, h => by
    simp only [takeN] at h
    cases ht : takeN n l with
    | none => rw [ht] at h; simp at h
    | some m =>
      rw [ht] at h
      simp at h
      obtain ⟨h1, h2⟩ := takeN_some n l m ht
      subst h h1
      simp; omega
theorem put0_some : ∀ (xs cs l : List SV), putAt.put0 xs cs = some l → l.length = cs.length ∧ xs.length ≤ cs.length ∧ ∀ i, l[i]? = if i < xs.length then xs[i]? else cs[i]?
  | [], cs, l, h => by simp [putAt.put0] at h; subst h; simp
  | x :: xs, [], l, h => by simp [putAt.put0] at h
  | x :: xs, c :: cs, l, h => by
    simp only [putAt.put0] at h
    cases ht : putAt.put0 xs cs with
    | none => rw [ht] at h; simp at h
    | some m =>
      rw [ht] at h
      simp at h
      obtain ⟨h1, h2, h3⟩ := put0_some xs cs m ht
      subst h
      refine ⟨by simp [h1], by simp; omega, fun i => ?_⟩
      cases i with
      | zero => simp
      | succ i => simp [h3 i]
theorem putAt_some : ∀ (k : Nat) (xs cs l : List SV), putAt k xs cs = some l →
    l.length = cs.length ∧ k + xs.length ≤ cs.length ∧ ∀ i, l[i]? = if k ≤ i ∧ i < k + xs.length then xs[i - k]? else cs[i]?
  | 0, xs, cs, l, h => by
    simp only [putAt] at h
    obtain ⟨h1, h2, h3⟩ := put0_some xs cs l h
    exact ⟨h1, by omega, fun i => by simpa using h3 i⟩
  | k + 1, xs, [], l, h => by simp [putAt] at h
  | k + 1, xs, c :: cs, l, h => by
    simp only [putAt] at h
    cases ht : putAt k xs cs with
    | none => rw [ht] at h; simp at h
    | some m =>
      rw [ht] at h
      simp at h
      obtain ⟨h1, h2, h3⟩ := putAt_some k xs cs m ht
      subst h
      refine ⟨by simp [h1], by simp; omega, fun i => ?_⟩
      cases i with
      | zero => simp
      | succ i =>
        simp only [List.getElem?_cons_succ, h3 i]
        by_cases hc : k ≤ i ∧ i < k + xs.length
        · rw [if_pos hc, if_pos (by omega)]; congr 1; omega
        · rw [if_neg hc, if_neg (by omega)]
theorem minN_eq (a b : Nat) : minN a b = min a b := by
  unfold minN
  cases h : Nat.ble a b with
  | true => rw [cond_true, Nat.min_eq_left (Nat.le_of_ble_eq_true h)]
  | false => rw [cond_false]; have : ¬ a ≤ b := fun hle => by rw [Nat.ble_eq_true_of_le hle] at h; cases h
             omega

/-! ## blocks -/
def CR (ρ : Rho) (cs : List SV) (rc : Array Value) (base : Nat) : Prop := ∀ (i : Nat) (x : SV), cs[i]? = some x → ∃ v, rc[base + i]? = some v ∧ VR ρ x v
def Free (fz : Nat × Nat) (lo hi : Nat) : Prop := ∀ i, lo ≤ i → i < hi → ¬ (fz.1 ≤ i ∧ i < fz.2)
def ER (ρ : Rho) : List (SV × SV × Nat) → List MapEntry → Prop
  | [], l => l = []
  | x :: xs, l => ∃ e es, VR ρ x.1 e.key ∧ VR ρ x.2.1 e.val ∧ e.born = x.2.2 ∧ ER ρ xs es ∧ l = e :: es

def loopSt : Nat → LoopState
  | 0 => .ready
  | 1 => .busy
  | 2 => .done
  | _ => .exhausted
def BR (ρ : Rho) (base e : Nat) : SBlk → Option Obj → Prop
  | .none, _ => True
  | .cells ty cs, o => ∃ rc, o = some (.cells rc ty (0, 0)) ∧ rc.size = e ∧ base + cs.length = e ∧ base = 0 ∧ CR ρ cs rc base
  | .opn ty cs ub fzn st, o => ∃ rc fz, o = some (.cells rc ty fz) ∧ rc.size = e ∧ base + cs.length ≤ e ∧ (ub < big → e ≤ base + ub) ∧ CR ρ cs rc base ∧ Free fz (base + fzn) e ∧ (st = false → fz.2 ≤ base + fzn)
  | .ro _ cs, o => ∃ rc ty fz, o = some (.cells rc ty fz) ∧ CR ρ cs rc base
  | .map es clock, o => ∃ es' : Array MapEntry, o = some (.map es' clock) ∧ ER ρ es es'.toList
  | .siter len n pos, o => base = 0 ∧ ∃ s : ByteArray, o = some (.stringIter s pos) ∧ s.size = len ∧ natOf s.data.toList = n
  | .lp n env ps a c st pend dm, o => ∃ (l : Loop) (r' base' e' : Nat), o = some (.loop l) ∧ l.tmps.size = n ∧ (∀ t, env.get t ≠ .bad → ∃ v, l.tmps[t]? = some v ∧ VR ρ (env.get t) v) ∧ l.params = ps ∧ l.assign = a ∧ l.body = c ∧
      l.state = loopSt st ∧ l.pending = pend ∧ ρ dm = some (r', base', e') ∧ l.defers = r'
  | .dm, o => o = some (.deferred (some []))
  | .mapp _, _ => True
  | .mapx es, o => ∃ (es' : Array MapEntry) (clock : Nat) (l : List (SV × SV × Nat)), o = some (.map es' clock) ∧ ER ρ l es'.toList ∧ (l.map fun y => (y.1, y.2.1)).Perm (es.map fun x => (SV.str x.1 x.2.1, x.2.2)) ∧ (es.map fun x => (x.1, x.2.1)).Nodup

theorem CR.mono {ρ ρ' : Rho} (h : ρ.le ρ') {cs : List SV} {rc : Array Value} {base : Nat} (hc : CR ρ cs rc base) : CR ρ' cs rc base :=
  fun i x hx => let ⟨v, h1, h2⟩ := hc i x hx; ⟨v, h1, VR.mono h x v h2⟩
theorem ER.mono {ρ ρ' : Rho} (h : ρ.le ρ') : ∀ {xs : List (SV × SV × Nat)} {l : List MapEntry}, ER ρ xs l → ER ρ' xs l
  | [], _, hl => by simpa [ER] using hl
  | x :: xs, l, hl => by
    simp only [ER] at hl ⊢
    obtain ⟨e, es, h1, h2, h3, h4, rfl⟩ := hl
    exact ⟨e, es, VR.mono h _ _ h1, VR.mono h _ _ h2, h3, ER.mono h h4, rfl⟩
theorem BR.mono {ρ ρ' : Rho} (h : ρ.le ρ') {base e : Nat} {blk : SBlk} {o : Option Obj} (hb : BR ρ base e blk o) : BR ρ' base e blk o := by
  cases blk <;> simp only [BR] at hb ⊢
  · obtain ⟨rc, h1, h2, h3, h30, h4⟩ := hb; exact ⟨rc, h1, h2, h3, h30, h4.mono h⟩
  · obtain ⟨rc, fz, h1, h2, h3, h4, h5, h6⟩ := hb; exact ⟨rc, fz, h1, h2, h3, h4, h5.mono h, h6⟩
  · obtain ⟨rc, ty, fz, h1, h2⟩ := hb; exact ⟨rc, ty, fz, h1, h2.mono h⟩
  · obtain ⟨es', h1, h2⟩ := hb; exact ⟨es', h1, h2.mono h⟩
  · exact hb
  · obtain ⟨l, r', base', e', h1, h2, h3, h4, h5, h6, h7, h8, h9, h10⟩ := hb
    exact ⟨l, r', base', e', h1, h2, fun t ht => let ⟨v, q1, q2⟩ := h3 t ht; ⟨v, q1, VR.mono h _ _ q2⟩, h4, h5, h6, h7, h8, h _ _ h9, h10⟩
  · exact hb
  · obtain ⟨es', clock, l, h1, h2, h3⟩ := hb
    exact ⟨es', clock, l, h1, h2.mono h, h3⟩
theorem CR.back {ρ ρ' : Rho} (h : ρ.le ρ') {cs : List SV} {rc rc' : Array Value} {base : Nat} (h0 : CR ρ cs rc base) (hc : CR ρ' cs rc' base) : CR ρ cs rc' base :=
  fun i x hx => let ⟨u, _, h1⟩ := h0 i x hx; let ⟨v, h2, h3⟩ := hc i x hx; ⟨v, h2, VR.back h x u v h1 h3⟩
theorem ER.back {ρ ρ' : Rho} (h : ρ.le ρ') : ∀ {xs : List (SV × SV × Nat)} {l l' : List MapEntry}, ER ρ xs l → ER ρ' xs l' → ER ρ xs l'
  | [], _, _, _, hl => by simpa [ER] using hl
  | x :: xs, l, l', h0, hl => by
    simp only [ER] at h0 hl ⊢
    obtain ⟨u, us, g1, g2, _, g4, _⟩ := h0
    obtain ⟨e, es, h1, h2, h3, h4, rfl⟩ := hl
    exact ⟨e, es, VR.back h _ _ _ g1 h1, VR.back h _ _ _ g2 h2, h3, ER.back h g4 h4, rfl⟩
theorem ER.has {ρ : Rho} : ∀ {xs : List (SV × SV × Nat)} {l : List MapEntry}, ER ρ xs l → ∀ x ∈ xs, (∃ u, VR ρ x.1 u) ∧ ∃ u, VR ρ x.2.1 u
  | [], _, _, x, hx => by cases hx
  | y :: ys, l, hl, x, hx => by
    simp only [ER] at hl
    obtain ⟨e, es, h1, h2, _, h4, _⟩ := hl
    rcases List.mem_cons.1 hx with rfl | hx
    · exact ⟨⟨_, h1⟩, ⟨_, h2⟩⟩
    · exact ER.has h4 x hx
theorem ER.back' {ρ ρ' : Rho} (h : ρ.le ρ') : ∀ {xs : List (SV × SV × Nat)} {l : List MapEntry}, (∀ x ∈ xs, (∃ u, VR ρ x.1 u) ∧ ∃ u, VR ρ x.2.1 u) → ER ρ' xs l → ER ρ xs l
  | [], _, _, hl => by simpa [ER] using hl
  | x :: xs, l, h0, hl => by
    simp only [ER] at hl ⊢
    obtain ⟨e, es, h1, h2, h3, h4, rfl⟩ := hl
    obtain ⟨⟨u1, q1⟩, ⟨u2, q2⟩⟩ := h0 x (List.mem_cons_self)
    exact ⟨e, es, VR.back h _ _ _ q1 h1, VR.back h _ _ _ q2 h2, h3, ER.back' h (fun y hy => h0 y (List.mem_cons_of_mem _ hy)) h4, rfl⟩
theorem BR.back {ρ ρ' : Rho} (h : ρ.le ρ') {base e : Nat} {blk : SBlk} {o o' : Option Obj} (h0 : BR ρ base e blk o) (hb : BR ρ' base e blk o') : BR ρ base e blk o' := by
  cases blk <;> simp only [BR] at h0 hb ⊢
  · obtain ⟨_, _, _, _, _, g4⟩ := h0; obtain ⟨rc, h1, h2, h3, h30, h4⟩ := hb; exact ⟨rc, h1, h2, h3, h30, g4.back h h4⟩
  · obtain ⟨_, _, _, _, _, _, g5, _⟩ := h0; obtain ⟨rc, fz, h1, h2, h3, h4, h5, h6⟩ := hb; exact ⟨rc, fz, h1, h2, h3, h4, g5.back h h5, h6⟩
  · obtain ⟨_, _, _, _, g2⟩ := h0; obtain ⟨rc, ty, fz, h1, h2⟩ := hb; exact ⟨rc, ty, fz, h1, g2.back h h2⟩
  · obtain ⟨_, _, g2⟩ := h0; obtain ⟨es', h1, h2⟩ := hb; exact ⟨es', h1, g2.back h h2⟩
  · exact hb
  · obtain ⟨_, r0, base0, e0, _, _, g3, _, _, _, _, _, g9, _⟩ := h0
    obtain ⟨l, r', base', e', h1, h2, h3, h4, h5, h6, h7, h8, h9, h10⟩ := hb
    have := h _ _ g9
    rw [h9] at this
    cases this
    exact ⟨l, _, _, _, h1, h2, fun t ht => let ⟨v, q1, q2⟩ := h3 t ht; let ⟨u, _, q3⟩ := g3 t ht; ⟨v, q1, VR.back h _ u _ q3 q2⟩, h4, h5, h6, h7, h8, g9, h10⟩
  · exact hb
  · obtain ⟨_, _, l0, _, g2, g3, _⟩ := h0
    obtain ⟨es', clock, l, h1, h2, h3, h4⟩ := hb
    refine ⟨es', clock, l, h1, ER.back' h (fun x hx => ?_) h2, h3, h4⟩
    have hm : (x.1, x.2.1) ∈ l0.map fun y => (y.1, y.2.1) := (h3.trans g3.symm).mem_iff.1 (List.mem_map.2 ⟨x, hx, rfl⟩)
    obtain ⟨y, hy, he⟩ := List.mem_map.1 hm
    obtain ⟨u1, u2⟩ := ER.has g2 y hy
    rw [Prod.mk.injEq] at he
    rw [← he.1, ← he.2]
    exact ⟨u1, u2⟩

def writable : SBlk → Bool
  | .none => false
  | .ro .. => false
  | .mapx _ => false
  | _ => true

/-- how many blocks lie below the run's own; I: what is known of the world as long as those stay as they are -/
structure Bound (I : Rho → World → Prop) where
  n : Nat
  stable : ∀ ρ ρ' w w', I ρ w → Rho.le ρ ρ' → Below n w w' → I ρ' w'
instance {I : Rho → World → Prop} : CoeOut (Bound I) Nat := ⟨Bound.n⟩
variable {I : Rho → World → Prop}
structure Rel (ρ : Rho) (N : Bound I) (s : St) (w : World) : Prop where
  fresh : ∀ b, s.nx ≤ b → ρ b = none
  live : ∀ b r base e, ρ b = some (r, base, e) → BR ρ base e (s.h.get b) w.heap[r]?
  bound : ∀ b r base e, ρ b = some (r, base, e) → r < w.heap.size
  low : ∀ b r base e, ρ b = some (r, base, e) → writable (s.h.get b) = true → N ≤ r
  inj : ∀ b b' r base e base' e', ρ b = some (r, base, e) → ρ b' = some (r, base', e') → writable (s.h.get b) = true → isNone (s.h.get b') = false → b = b'
  size : N ≤ w.heap.size
  inv : I ρ w

structure Ext (ρ : Rho) (s : St) (ρ' : Rho) (s' : St) : Prop where
  le : ρ.le ρ'
  keep : ∀ b, b < s.nx → ρ b = none → ρ' b = none ∧ s'.h.get b = s.h.get b
  nx : s.nx ≤ s'.nx
  lo : s'.lo ≤ s.lo
  same : ∀ b, b < s.nx → b < s'.lo → s'.h.get b = s.h.get b

theorem Ext.refl (ρ : Rho) (s : St) : Ext ρ s ρ s := ⟨Rho.le_refl ρ, fun _ _ h => ⟨h, rfl⟩, Nat.le_refl _, Nat.le_refl _, fun _ _ _ => rfl⟩
theorem Ext.trans {ρ ρ' ρ'' : Rho} {s s' s'' : St} (h : Ext ρ s ρ' s') (k : Ext ρ' s' ρ'' s'') : Ext ρ s ρ'' s'' where
  le := Rho.le_trans h.le k.le
  keep b hb hn := by
    obtain ⟨h1, h2⟩ := h.keep b hb hn
    obtain ⟨k1, k2⟩ := k.keep b (Nat.lt_of_lt_of_le hb h.nx) h1
    exact ⟨k1, k2.trans h2⟩
  nx := Nat.le_trans h.nx k.nx
  lo := Nat.le_trans k.lo h.lo
  same b hb hl := by
    rw [k.same b (Nat.lt_of_lt_of_le hb h.nx) hl]
    exact h.same b hb (Nat.lt_of_lt_of_le hl k.lo)

/-! ## worlds -/
def putB (w : World) (r : Nat) (o : Obj) : World := { w with heap := w.heap.setIfInBounds r o }
def newB (w : World) (o : Obj) : World := { w with heap := w.heap.push o }

theorem putB_get (w : World) (r : Nat) (o : Obj) (hr : r < w.heap.size) (k : Nat) : (putB w r o).heap[k]? = if k = r then some o else w.heap[k]? := by
  simp only [putB, Array.getElem?_setIfInBounds]
  by_cases h : k = r
  · subst h; simp [hr]
  · rw [if_neg (fun e => h e.symm), if_neg h]
theorem putB_same (w : World) (r : Nat) (o : Obj) (h : w.heap[r]? = some o) : putB w r o = w := by
  have : w.heap.setIfInBounds r o = w.heap := by
    apply Array.ext_getElem?
    intro i
    simp only [Array.getElem?_setIfInBounds]
    by_cases e : r = i
    · subst e
      have hlt : r < w.heap.size := (Array.getElem?_eq_some_iff.1 h).1
      have h' := h; rw [Array.getElem?_eq_getElem hlt] at h'; simp only [Option.some.injEq] at h'; simp [hlt, h']
    · rw [if_neg e]
  simp only [putB, this]
theorem putB_putB (w : World) (r : Nat) (o o' : Obj) : putB (putB w r o) r o' = putB w r o' := by
  simp [putB]
theorem newB_get (w : World) (o : Obj) (k : Nat) : (newB w o).heap[k]? = if k = w.heap.size then some o else w.heap[k]? := by
  simp only [newB, Array.getElem?_push]

theorem Below.putB {N : Nat} {w : World} {r : Nat} {o : Obj} (h : N ≤ r) : Below N w (putB w r o) :=
  ⟨rfl, rfl, rfl, by simp [Sh.putB], fun k hk => by simp only [Sh.putB, Array.getElem?_setIfInBounds]; rw [if_neg (by omega)]⟩
theorem Below.newB {N : Nat} {w : World} {o : Obj} (h : N ≤ w.heap.size) : Below N w (newB w o) :=
  ⟨rfl, rfl, rfl, by simp [Sh.newB], fun k hk => by rw [newB_get, if_neg (by omega)]⟩

theorem isNone_of_writable {b : SBlk} (h : writable b = true) : isNone b = false := by cases b <;> simp [writable] at h <;> rfl

theorem Rel.put {ρ : Rho} {N : Bound I} {s : St} {w : World} (H : Rel ρ N s w) {b r base e : Nat} (hb : ρ b = some (r, base, e)) (hw : writable (s.h.get b) = true) {blk : SBlk} {o : Obj}
    (hB : BR ρ base e blk (some o)) : Rel ρ N (s.put b blk) (putB w r o) where
  fresh b' hb' := H.fresh b' hb'
  live b' r' base' e' hb' := by
    have hbnd := H.bound _ _ _ _ hb
    rw [putB_get _ _ _ hbnd]
    by_cases hbb : b' = b
    · subst hbb
      rw [hb] at hb'; cases hb'
      rw [if_pos rfl]
      show BR ρ base e ((s.h.set b' blk).get b') _
      rcases Hp.get_set_eq s.h b' blk with hg | hg <;> rw [hg]
      · exact hB
      · simp [BR]
    · show BR ρ base' e' ((s.h.set b blk).get b') _
      rw [Hp.get_set_ne _ _ _ _ hbb]
      by_cases hrr : r' = r
      · subst hrr
        cases hnn : isNone (s.h.get b') with
        | true => cases hg : s.h.get b' <;> rw [hg] at hnn <;> simp [isNone] at hnn; simp [BR]
        | false => exact absurd (H.inj _ _ _ _ _ _ _ hb hb' hw hnn).symm hbb
      · rw [if_neg hrr]; exact H.live _ _ _ _ hb'
  bound b' r' base' e' hb' := by have := H.bound _ _ _ _ hb'; simpa [putB] using this
  low b' r' base' e' hb' hw' := by
    by_cases hbb : b' = b
    · subst hbb; rw [hb] at hb'; cases hb'; exact H.low _ _ _ _ hb hw
    · have : (s.put b blk).h.get b' = s.h.get b' := Hp.get_set_ne _ _ _ _ hbb
      rw [this] at hw'; exact H.low _ _ _ _ hb' hw'
  inj b1 b2 r' x1 y1 x2 y2 h1 h2 n1 n2 := by
    have key : ∀ b', isNone ((s.put b blk).h.get b') = false → isNone (s.h.get b') = false := by
      intro b' hn'
      by_cases hbb : b' = b
      · subst hbb; exact isNone_of_writable hw
      · have : (s.put b blk).h.get b' = s.h.get b' := Hp.get_set_ne _ _ _ _ hbb
        rw [this] at hn'; exact hn'
    have keyw : ∀ b', writable ((s.put b blk).h.get b') = true → writable (s.h.get b') = true := by
      intro b' hn'
      by_cases hbb : b' = b
      · subst hbb; exact hw
      · have : (s.put b blk).h.get b' = s.h.get b' := Hp.get_set_ne _ _ _ _ hbb
        rw [this] at hn'; exact hn'
    exact H.inj _ _ _ _ _ _ _ h1 h2 (keyw _ n1) (key _ n2)
  size := by simpa [putB] using H.size
  inv := N.stable _ _ _ _ H.inv (Rho.le_refl ρ) (Below.putB (H.low _ _ _ _ hb hw))

theorem Ext.put {ρ : Rho} {N : Bound I} {s : St} {w : World} (_H : Rel ρ N s w) {b r base e : Nat} (hb : ρ b = some (r, base, e)) (blk : SBlk) : Ext ρ s ρ (s.put b blk) where
  le := Rho.le_refl ρ
  keep b' _ hn := ⟨hn, Hp.get_set_ne _ _ _ _ (fun e' => by rw [e', hb] at hn; cases hn)⟩
  nx := Nat.le_refl _
  lo := by show minN s.lo b ≤ s.lo; rw [minN_eq]; omega
  same b' _ hl := Hp.get_set_ne _ _ _ _ (fun e' => by subst e'; have hl' : b' < minN s.lo b' := hl; rw [minN_eq] at hl'; omega)

def Rho.add (ρ : Rho) (b : Nat) (x : Nat × Nat × Nat) : Rho := fun b' => if b' = b then some x else ρ b'
theorem Rho.le_add {ρ : Rho} {b : Nat} {x : Nat × Nat × Nat} (h : ρ b = none) : ρ.le (ρ.add b x) := fun b' y hy => by
  unfold Rho.add
  by_cases e : b' = b
  · subst e; rw [h] at hy; cases hy
  · rw [if_neg e]; exact hy
theorem Rho.add_self (ρ : Rho) (b : Nat) (x : Nat × Nat × Nat) : (ρ.add b x) b = some x := by simp [Rho.add]
theorem Rho.add_ne (ρ : Rho) {b b' : Nat} (x : Nat × Nat × Nat) (h : b' ≠ b) : (ρ.add b x) b' = ρ b' := by simp [Rho.add, h]

theorem Rel.new {ρ : Rho} {N : Bound I} {s : St} {w : World} (H : Rel ρ N s w) {blk : SBlk} {o : Obj} {base e : Nat}
    (hB : BR ρ base e blk (some o)) : Rel (ρ.add s.nx (w.heap.size, base, e)) N (s.new blk) (newB w o) where
  fresh b hb := by
    have hb' : s.nx < b := hb
    rw [Rho.add_ne _ _ (by omega)]
    exact H.fresh b (by omega)
  live b r base' e' hb := by
    have hn := H.fresh s.nx (Nat.le_refl _)
    have hle := Rho.le_add (x := (w.heap.size, base, e)) hn
    rw [newB_get]
    by_cases hbb : b = s.nx
    · subst hbb
      rw [Rho.add_self] at hb; cases hb
      rw [if_pos rfl]
      show BR _ base e ((s.h.set s.nx blk).get s.nx) _
      rcases Hp.get_set_eq s.h s.nx blk with hg | hg <;> rw [hg]
      · exact hB.mono hle
      · simp [BR]
    · rw [Rho.add_ne _ _ hbb] at hb
      show BR _ base' e' ((s.h.set s.nx blk).get b) _
      rw [Hp.get_set_ne _ _ _ _ hbb]
      have hlt := H.bound _ _ _ _ hb
      rw [if_neg (by omega)]
      exact (H.live _ _ _ _ hb).mono hle
  bound b r base' e' hb := by
    have hs : (newB w o).heap.size = w.heap.size + 1 := by simp [newB]
    by_cases hbb : b = s.nx
    · subst hbb; rw [Rho.add_self] at hb; cases hb; omega
    · rw [Rho.add_ne _ _ hbb] at hb; have := H.bound _ _ _ _ hb; omega
  low b r base' e' hb hw := by
    by_cases hbb : b = s.nx
    · subst hbb; rw [Rho.add_self] at hb; cases hb; exact H.size
    · rw [Rho.add_ne _ _ hbb] at hb
      have : (s.new blk).h.get b = s.h.get b := Hp.get_set_ne _ _ _ _ hbb
      rw [this] at hw; exact H.low _ _ _ _ hb hw
  inj b1 b2 r x1 y1 x2 y2 h1 h2 n1 n2 := by
    by_cases e1 : b1 = s.nx <;> by_cases e2 : b2 = s.nx
    · rw [e1, e2]
    · subst e1; rw [Rho.add_self] at h1; cases h1; rw [Rho.add_ne _ _ e2] at h2; exact absurd (H.bound _ _ _ _ h2) (by omega)
    · subst e2; rw [Rho.add_self] at h2; cases h2; rw [Rho.add_ne _ _ e1] at h1; exact absurd (H.bound _ _ _ _ h1) (by omega)
    · rw [Rho.add_ne _ _ e1] at h1; rw [Rho.add_ne _ _ e2] at h2
      have g1 : (s.new blk).h.get b1 = s.h.get b1 := Hp.get_set_ne _ _ _ _ e1
      have g2 : (s.new blk).h.get b2 = s.h.get b2 := Hp.get_set_ne _ _ _ _ e2
      rw [g1] at n1; rw [g2] at n2
      exact H.inj _ _ _ _ _ _ _ h1 h2 n1 n2
  size := by have := H.size; simp [newB]; omega
  inv := N.stable _ _ _ _ H.inv (Rho.le_add (H.fresh s.nx (Nat.le_refl _))) (Below.newB H.size)

theorem Ext.new {ρ : Rho} {N : Bound I} {s : St} {w : World} (H : Rel ρ N s w) (blk : SBlk) (x : Nat × Nat × Nat) : Ext ρ s (ρ.add s.nx x) (s.new blk) where
  le := Rho.le_add (H.fresh _ (Nat.le_refl _))
  keep b hb hn := ⟨by rw [Rho.add_ne _ _ (by omega)]; exact hn, Hp.get_set_ne _ _ _ _ (by omega)⟩
  nx := Nat.le_succ _
  lo := Nat.le_refl _
  same b hb _ := Hp.get_set_ne _ _ _ _ (by omega)

theorem Below.drawn {N : Nat} {w : World} (d : Nat) : Below N w { w with drawn := d } := ⟨rfl, rfl, rfl, Nat.le_refl _, fun _ _ => rfl⟩
theorem Rel.drawn {ρ : Rho} {N : Bound I} {s : St} {w : World} (H : Rel ρ N s w) (d : Nat) : Rel ρ N s { w with drawn := d } :=
  ⟨H.fresh, H.live, H.bound, H.low, H.inj, H.size, N.stable _ _ _ _ H.inv (Rho.le_refl ρ) (Below.drawn d)⟩

/-- a block that goes on under a new name -/
theorem Rel.move {ρ : Rho} {N : Bound I} {s : St} {w : World} (H : Rel ρ N s w) {b r base e : Nat} (hb : ρ b = some (r, base, e)) (hw : writable (s.h.get b) = true) {blk : SBlk} {o : Obj} {base' e' : Nat}
    (hB : BR ρ base' e' blk (some o)) : Rel (ρ.add s.nx (r, base', e')) N ((s.put b .none).new blk) (putB w r o) := by
  have hnx : b ≠ s.nx := fun h => by have := H.fresh s.nx (Nat.le_refl _); rw [← h, hb] at this; cases this
  have hbnd := H.bound _ _ _ _ hb
  have hn := H.fresh s.nx (Nat.le_refl _)
  have hle := Rho.le_add (x := (r, base', e')) hn
  have gnew : ((s.put b .none).new blk).h.get s.nx = blk ∨ ((s.put b .none).new blk).h.get s.nx = .none := Hp.get_set_eq (s.h.set b .none) s.nx blk
  have gb : ((s.put b .none).new blk).h.get b = .none := by
    have h1 : ((s.put b .none).new blk).h.get b = (s.h.set b .none).get b := Hp.get_set_ne _ _ _ _ hnx
    rw [h1]; rcases Hp.get_set_eq s.h b .none with hg | hg <;> exact hg
  have gne : ∀ b', b' ≠ s.nx → b' ≠ b → ((s.put b .none).new blk).h.get b' = s.h.get b' := fun b' h1 h2 => by
    have h3 : ((s.put b .none).new blk).h.get b' = (s.h.set b .none).get b' := Hp.get_set_ne _ _ _ _ h1
    rw [h3]; exact Hp.get_set_ne _ _ _ _ h2
  have other : ∀ b' base e, b' ≠ b → ρ b' = some (r, base, e) → isNone (s.h.get b') = true := fun b' base e h1 h2 => by
    cases hnn : isNone (s.h.get b') with
    | true => rfl
    | false => exact absurd (H.inj _ _ _ _ _ _ _ hb h2 hw hnn).symm h1
  refine ⟨?_, ?_, ?_, ?_, ?_, ?_, N.stable _ _ _ _ H.inv hle (Below.putB (H.low _ _ _ _ hb hw))⟩
  · intro b' hb'
    have hb'' : s.nx < b' := hb'
    rw [Rho.add_ne _ _ (by omega)]
    exact H.fresh b' (by omega)
  · intro b' r' x y h
    rw [putB_get _ _ _ hbnd]
    by_cases h1 : b' = s.nx
    · subst h1
      rw [Rho.add_self] at h; cases h
      rw [if_pos rfl]
      rcases gnew with hg | hg <;> rw [hg]
      · exact hB.mono hle
      · simp [BR]
    · rw [Rho.add_ne _ _ h1] at h
      by_cases h2 : b' = b
      · subst h2; rw [gb]; simp [BR]
      · rw [gne b' h1 h2]
        by_cases hrr : r' = r
        · subst hrr
          have := other b' _ _ h2 h
          cases hg : s.h.get b' <;> rw [hg] at this <;> simp [isNone] at this
          simp [BR]
        · rw [if_neg hrr]; exact (H.live _ _ _ _ h).mono hle
  · intro b' r' x y h
    have hs : (putB w r o).heap.size = w.heap.size := by simp [putB]
    by_cases h1 : b' = s.nx
    · subst h1; rw [Rho.add_self] at h; cases h; omega
    · rw [Rho.add_ne _ _ h1] at h; have := H.bound _ _ _ _ h; omega
  · intro b' r' x y h hw'
    by_cases h1 : b' = s.nx
    · subst h1; rw [Rho.add_self] at h; cases h; exact H.low _ _ _ _ hb hw
    · rw [Rho.add_ne _ _ h1] at h
      by_cases h2 : b' = b
      · subst h2; rw [gb] at hw'; simp [writable] at hw'
      · rw [gne b' h1 h2] at hw'; exact H.low _ _ _ _ h hw'
  · intro b1 b2 r' x1 y1 x2 y2 h1 h2 n1 n2
    by_cases e1 : b1 = s.nx <;> by_cases e2 : b2 = s.nx
    · rw [e1, e2]
    · subst e1; rw [Rho.add_self] at h1; cases h1
      rw [Rho.add_ne _ _ e2] at h2
      by_cases k2 : b2 = b
      · subst k2; rw [gb] at n2; simp [isNone] at n2
      · rw [gne b2 e2 k2] at n2
        have := other b2 _ _ k2 h2
        rw [n2] at this; cases this
    · subst e2; rw [Rho.add_self] at h2; cases h2
      rw [Rho.add_ne _ _ e1] at h1
      by_cases k1 : b1 = b
      · subst k1; rw [gb] at n1; simp [writable] at n1
      · rw [gne b1 e1 k1] at n1
        have := other b1 _ _ k1 h1
        rw [isNone_of_writable n1] at this; cases this
    · rw [Rho.add_ne _ _ e1] at h1; rw [Rho.add_ne _ _ e2] at h2
      by_cases k1 : b1 = b
      · subst k1; rw [gb] at n1; simp [writable] at n1
      · by_cases k2 : b2 = b
        · subst k2; rw [gb] at n2; simp [isNone] at n2
        · rw [gne b1 e1 k1] at n1; rw [gne b2 e2 k2] at n2
          exact H.inj _ _ _ _ _ _ _ h1 h2 n1 n2
  · simpa [putB] using H.size
theorem Ext.move {ρ : Rho} {N : Bound I} {s : St} {w : World} (H : Rel ρ N s w) {b r base e : Nat} (hb : ρ b = some (r, base, e)) (blk : SBlk) (x : Nat × Nat × Nat) :
    Ext ρ s (ρ.add s.nx x) ((s.put b .none).new blk) where
  le := Rho.le_add (H.fresh _ (Nat.le_refl _))
  keep b' hb' hn := ⟨by rw [Rho.add_ne _ _ (by omega)]; exact hn, by
    have h1 : ((s.put b .none).new blk).h.get b' = (s.h.set b .none).get b' := Hp.get_set_ne _ _ _ _ (by show b' ≠ s.nx; omega)
    rw [h1]; exact Hp.get_set_ne _ _ _ _ (fun e' => by rw [e', hb] at hn; cases hn)⟩
  nx := Nat.le_succ _
  lo := by show minN s.lo b ≤ s.lo; rw [minN_eq]; omega
  same b' hb' hl := by
    have hl' : b' < minN s.lo b := hl
    rw [minN_eq] at hl'
    have h1 : ((s.put b .none).new blk).h.get b' = (s.h.set b .none).get b' := Hp.get_set_ne _ _ _ _ (by show b' ≠ s.nx; omega)
    rw [h1]; exact Hp.get_set_ne _ _ _ _ (by omega)

/-- a state whose heap holds less -/
theorem Rel.lo {ρ : Rho} {N : Bound I} {s : St} {w : World} (H : Rel ρ N s w) (l : Nat) : Rel ρ N ⟨s.h, s.nx, l⟩ w := ⟨H.fresh, H.live, H.bound, H.low, H.inj, H.size, H.inv⟩
theorem Rel.drop {ρ : Rho} {N : Bound I} {s : St} {w : World} (H : Rel ρ N s w) (b : Nat) : Rel ρ N (s.put b .none) w where
  fresh := H.fresh
  live b' r base e hb := by
    show BR ρ base e ((s.h.set b .none).get b') _
    by_cases hbb : b' = b
    · subst hbb
      rcases Hp.get_set_eq s.h b' .none with hg | hg <;> rw [hg] <;> simp [BR]
    · rw [Hp.get_set_ne _ _ _ _ hbb]; exact H.live _ _ _ _ hb
  bound := H.bound
  low b' r base e hb hw := by
    by_cases hbb : b' = b
    · subst hbb
      have : (s.put b' .none).h.get b' = .none := by rcases Hp.get_set_eq s.h b' .none with hg | hg <;> exact hg
      rw [this] at hw; simp [writable] at hw
    · have : (s.put b .none).h.get b' = s.h.get b' := Hp.get_set_ne _ _ _ _ hbb
      rw [this] at hw; exact H.low _ _ _ _ hb hw
  inj b1 b2 r x1 y1 x2 y2 h1 h2 n1 n2 := by
    have key : ∀ b', isNone ((s.put b .none).h.get b') = false → isNone (s.h.get b') = false := by
      intro b' hn'
      by_cases hbb : b' = b
      · subst hbb
        have : (s.put b' .none).h.get b' = .none := by rcases Hp.get_set_eq s.h b' .none with hg | hg <;> exact hg
        rw [this] at hn'; simp [isNone] at hn'
      · have : (s.put b .none).h.get b' = s.h.get b' := Hp.get_set_ne _ _ _ _ hbb
        rw [this] at hn'; exact hn'
    have keyw : ∀ b', writable ((s.put b .none).h.get b') = true → writable (s.h.get b') = true := by
      intro b' hn'
      by_cases hbb : b' = b
      · subst hbb
        have : (s.put b' .none).h.get b' = .none := by rcases Hp.get_set_eq s.h b' .none with hg | hg <;> exact hg
        rw [this] at hn'; simp [writable] at hn'
      · have : (s.put b .none).h.get b' = s.h.get b' := Hp.get_set_ne _ _ _ _ hbb
        rw [this] at hn'; exact hn'
    exact H.inj _ _ _ _ _ _ _ h1 h2 (keyw _ n1) (key _ n2)
  size := H.size
  inv := H.inv

end Go.Sh
