/- Part of the proof that the law PostureDeep answers true: nested instructions, by induction on how deep they are. No condition. -/
import Derived.Test.YtfbeheihdjglgaaDoorPdD
import Derived.Test.YtfbeheihdjglgaaDoorShArgs
set_option linter.unusedSectionVars false
set_option linter.unusedSimpArgs false
set_option linter.unusedVariables false
namespace Go.Pd
open Go Go.Sh
/-- what is not known: a slice (100), a depth (200), a context (204), an answer (205, 206), the law's numbers (300, 301) -/
structure PV where
  a : Option Addr := none
  l : Nat := 0
  c : Nat := 0
  d : Int := 0
  cx : Int := 0
  p : Int := 0
  s : Int := 0
  n : Nat := 0
  k : Nat := 0
abbrev opqPd (v : PV) : Opq where
  val i := if i < 100 then .string .empty else if i < 200 then .slice v.a v.l v.c else if i = 200 then .int .i64 v.d else if i = 201 then .int .i64 (v.d + 1) else if i = 202 then .int .i64 (v.d + 2)
    else if i = 204 then .int .i64 v.cx else if i = 205 then .int .i64 v.p else if i = 206 then .int .i64 v.s else if i = 300 then .int .u8 v.n else if i = 301 then .int .u8 v.k else if i = 302 then .int .i64 v.n
    else if 1100 ≤ i ∧ i < 1200 then .int .i64 v.l else .int .i64 0
  str i h := ⟨.empty, by rw [if_pos h]⟩
  slc i h h' := ⟨v.a, v.l, v.c, by rw [if_neg (by omega), if_pos h']⟩
  int i h := by
    rw [if_neg (by omega), if_neg (by omega)]
    repeat' split
    all_goals exact ⟨_, _, rfl⟩
  lenS i s' h hs := by
    rw [if_pos h] at hs
    cases hs
    rw [if_neg (by omega), if_neg (by omega), if_neg (by omega), if_neg (by omega), if_neg (by omega), if_neg (by omega), if_neg (by omega), if_neg (by omega), if_neg (by omega), if_neg (by omega), if_neg (by omega), if_neg (by omega)]
    rfl
  lenL i x l c h h' hs := by
    rw [if_neg (by omega), if_pos h'] at hs
    cases hs
    rw [if_neg (by omega), if_neg (by omega), if_neg (by omega), if_neg (by omega), if_neg (by omega), if_neg (by omega), if_neg (by omega), if_neg (by omega), if_neg (by omega), if_neg (by omega), if_neg (by omega), if_pos (by omega)]
/-- what the oracle's parameters mean -/
structure POk (v : PV) (o : PO) : Prop where
  d0 : ∀ b, o.d0 = some b → b = decide (200 < v.d)
  d1 : ∀ b, o.d1 = some b → b = decide (200 < v.d + 1)
  lo : ∀ b, o.lo = some b → b = decide (v.cx < 0)
  hi : ∀ b, o.hi = some b → b = decide (4 < v.cx)
  j : o.j = v.n % 10
  m : o.m = v.k % 3
  n8 : v.n < 256
  dlo : 0 ≤ v.d
  dhi : v.d ≤ 1000000
theorem beqc {α : Type} {i m : Nat} {x y r : α} (h : cond (Nat.beq i m) x y = r) : (i = m ∧ x = r) ∨ (i ≠ m ∧ y = r) := by
  cases hb : Nat.beq i m with
  | true => rw [hb, cond_true] at h; exact .inl ⟨Nat.eq_of_beq_eq_true hb, h⟩
  | false => rw [hb, cond_false] at h; exact .inr ⟨Nat.ne_of_beq_eq_false hb, h⟩
theorem badc {i m : Nat} {x : SV} (h : cond (Nat.beq i m) x .bad ≠ .bad) : i = m ∧ cond (Nat.beq i m) x .bad = x := by
  cases hb : Nat.beq i m with
  | true => exact ⟨Nat.eq_of_beq_eq_true hb, rfl⟩
  | false => rw [hb] at h; exact absurd rfl h
theorem wrap_id {n : Int} (h1 : -9223372036854775808 ≤ n) (h2 : n ≤ 9223372036854775807) : IntKind.i64.wrap n = n := by
  rw [IntKind.wrap_i64]; omega
theorem pdGtr_sound {v : PV} {o : PO} (H : POk v o) {i k : Nat} {b : Bool} (h : pdGtr o i k = some b) : ∃ z : Int, @Opq.val (opqPd v) i = .int .i64 z ∧ b = decide (z > (k : Int)) := by
  unfold pdGtr at h
  rcases beqc h with ⟨e, h1⟩ | ⟨_, h1⟩
  · subst e
    rcases beqc h1 with ⟨e, h2⟩ | ⟨_, h2⟩
    · subst e; exact ⟨v.d, rfl, H.d0 b h2⟩
    · rcases beqc h2 with ⟨e, h3⟩ | ⟨_, h3⟩
      · subst e; exact ⟨v.d + 1, rfl, H.d1 b h3⟩
      · cases h3
  · rcases beqc h1 with ⟨e, h2⟩ | ⟨_, h2⟩
    · subst e
      rcases beqc h2 with ⟨e, h3⟩ | ⟨_, h3⟩
      · subst e; exact ⟨v.cx, rfl, H.hi b h3⟩
      · cases h3
    · cases h2
theorem pdLss_sound {v : PV} {o : PO} (H : POk v o) {i k : Nat} {b : Bool} (h : pdLss o i k = some b) : ∃ z : Int, @Opq.val (opqPd v) i = .int .i64 z ∧ b = decide (z < (k : Int)) := by
  unfold pdLss at h
  rcases beqc h with ⟨e, h1⟩ | ⟨_, h1⟩
  · subst e
    rcases beqc h1 with ⟨e, h2⟩ | ⟨_, h2⟩
    · subst e; exact ⟨v.cx, rfl, H.lo b h2⟩
    · cases h2
  · cases h1
theorem pdEql_sound {v : PV} {i j : Nat} {b : Bool} (h : pdEql i j = some b) : ∃ z : Int, @Opq.val (opqPd v) i = .int .i64 z ∧ @Opq.val (opqPd v) j = .int .i64 z ∧ b = true := by
  unfold pdEql at h
  rcases beqc h with ⟨e, h1⟩ | ⟨_, h1⟩
  · subst e
    rcases beqc h1 with ⟨e, h2⟩ | ⟨_, h2⟩
    · subst e; exact ⟨v.p, rfl, rfl, by cases h2; rfl⟩
    · cases h2
  · rcases beqc h1 with ⟨e, h2⟩ | ⟨_, h2⟩
    · subst e
      rcases beqc h2 with ⟨e, h3⟩ | ⟨_, h3⟩
      · subst e; exact ⟨v.s, rfl, rfl, by cases h3; rfl⟩
      · cases h3
    · cases h2
theorem pd_ok {P : Program} {E0 : TypeId → Bool} (hE0 : ∀ t, E0 t = true → P.stoodInHeld t = false ∧ P.eqGuardType P.depth t = false) {v : PV} {o : PO} (H : POk v o) :
    letI := opqPd v; EOk P (pdE E0 o) := by
  letI := opqPd v
  refine ⟨hE0, fun op t x y v' u w ρ h hx hy => ?_, fun i l h ρ hne => absurd rfl hne, fun k i ρ hne => ?_⟩
  · show ∃ r, (binOp op t v' u).run P w = .ok r w ∧ VR ρ (pdO o op x y) r
    replace h : pdO o op x y ≠ .bad := h
    cases op <;> try exact absurd rfl h
    · -- add
      cases x <;> try exact absurd rfl h
      rename_i i
      cases y <;> try exact absurd rfl h
      rename_i k m
      cases k <;> try exact absurd rfl h
      cases m with
      | negSucc m => exact absurd rfl h
      | ofNat m =>
        simp only [pdO] at h ⊢
        obtain ⟨e1, e⟩ := badc h
        rw [e] at h ⊢; subst e1; clear e
        have hlo := H.dlo
        have hhi := H.dhi
        simp only [VR] at hx hy
        subst hy
        cases hb : Nat.beq i 200 with
        | true =>
          obtain rfl := Nat.eq_of_beq_eq_true hb
          have hx' : v' = .int .i64 v.d := hx
          subst hx'
          refine ⟨.int .i64 (v.d + 1), ?_, by simp only [cond_true, VR]; rfl⟩
          simp only [binOp, Op.intArith]
          rw [show IntKind.i64.wrap (v.d + Int.ofNat 1) = v.d + 1 from wrap_id (by have : Int.ofNat 1 = 1 := rfl; omega) (by have : Int.ofNat 1 = 1 := rfl; omega)]
          rfl
        | false =>
          rw [hb, cond_false] at h
          obtain ⟨e1, e⟩ := badc h
          subst e1
          have hx' : v' = .int .i64 (v.d + 1) := hx
          subst hx'
          refine ⟨.int .i64 (v.d + 2), ?_, by rw [cond_false, e]; simp only [VR]; rfl⟩
          simp only [binOp, Op.intArith]
          rw [show IntKind.i64.wrap (v.d + 1 + Int.ofNat 1) = v.d + 2 from by
            have e1 : Int.ofNat 1 = 1 := rfl
            rw [wrap_id (by omega) (by omega)]; omega]
          rfl
    · -- rem
      cases x <;> try exact absurd rfl h
      rename_i i
      cases y <;> try exact absurd rfl h
      rename_i k m
      cases k <;> try exact absurd rfl h
      · cases m with
        | negSucc m => exact absurd rfl h
        | ofNat m =>
          simp only [pdO] at h ⊢
          obtain ⟨e1, e⟩ := badc h
          rw [e] at h ⊢; subst e1; clear e
          obtain ⟨e1, e⟩ := badc h
          rw [e] at h ⊢; subst e1; clear e
          simp only [VR] at hx hy
          have hx' : v' = .int .i64 v.n := hx
          subst hx' hy
          refine ⟨.int .i64 ((v.n % 10 : Nat) : Int), ?_, by rw [H.j]; simp [VR]⟩
          simp [binOp, Op.intDiv]
          rfl
      · cases m with
        | negSucc m => exact absurd rfl h
        | ofNat m =>
          simp only [pdO] at h ⊢
          obtain ⟨e1, e⟩ := badc h
          rw [e] at h ⊢; subst e1; clear e
          obtain ⟨e1, e⟩ := badc h
          rw [e] at h ⊢; subst e1; clear e
          simp only [VR] at hx hy
          have hx' : v' = .int .u8 v.k := hx
          subst hx' hy
          refine ⟨.int .u8 ((v.k % 3 : Nat) : Int), ?_, by rw [H.m]; simp [VR]⟩
          simp [binOp, Op.intDiv]
          rfl
    · -- eql
      cases x <;> try exact absurd rfl h
      rename_i i
      cases y <;> try exact absurd rfl h
      rename_i j
      simp only [pdO] at h ⊢
      cases he : pdEql i j with
      | none => rw [he] at h; exact absurd rfl h
      | some r =>
        obtain ⟨z, h1, h2, rfl⟩ := pdEql_sound (v := v) he
        simp only [VR] at hx hy
        rw [h1] at hx
        rw [h2] at hy
        subst hx hy
        exact ⟨.bool true, by simp [binOp, Op.intCmp], by simp [optV, VR]⟩
    · -- lss
      cases x <;> try exact absurd rfl h
      rename_i i
      cases y <;> try exact absurd rfl h
      rename_i k m
      cases k <;> try exact absurd rfl h
      cases m with
      | negSucc m => exact absurd rfl h
      | ofNat m =>
        simp only [pdO] at h ⊢
        cases he : pdLss o i m with
        | none => rw [he] at h; exact absurd rfl h
        | some r =>
          obtain ⟨z, h1, rfl⟩ := pdLss_sound H he
          simp only [VR] at hx hy
          rw [h1] at hx
          subst hx hy
          exact ⟨_, by simp [binOp, Op.intCmp]; rfl, by simp [optV, VR]⟩
    · -- gtr
      cases x <;> try exact absurd rfl h
      rename_i i
      cases y <;> try exact absurd rfl h
      rename_i k m
      cases k <;> try exact absurd rfl h
      cases m with
      | negSucc m => exact absurd rfl h
      | ofNat m =>
        simp only [pdO] at h ⊢
        cases he : pdGtr o i m with
        | none => rw [he] at h; exact absurd rfl h
        | some r =>
          obtain ⟨z, h1, rfl⟩ := pdGtr_sound H he
          simp only [VR] at hx hy
          rw [h1] at hx
          subst hx hy
          exact ⟨_, by simp [binOp, Op.intCmp]; rfl, by simp [optV, VR]⟩
  · replace hne : pdC k (.opq i) ≠ .bad := hne
    show ∃ k0 n, Opq.val i = .int k0 n ∧ VR ρ (pdC k (.opq i)) (.int k (k.wrap n))
    cases k <;> try exact absurd rfl hne
    simp only [pdC] at hne ⊢
    obtain ⟨e1, e⟩ := badc hne
    rw [e]; subst e1
    have h8 := H.n8
    refine ⟨.u8, v.n, rfl, ?_⟩
    rw [wrap_id (by omega) (by omega)]
    simp only [VR]
    rfl
end Go.Pd
namespace Go.Pd
open Go Go.Sh
open Go.RowKit (Below)
/-! ## nested instructions -/
inductive Nst where
  | nil
  | one (kd : Nat) (t : Nst)
  | pair (t : Nst)
  | els (t : Nst)
def Nst.flat : Nst → List Nat
  | .nil => []
  | .one kd t => kd :: t.flat
  | .pair t => 16 :: 18 :: t.flat
  | .els t => 18 :: t.flat
def Nst.good : Nst → Prop
  | .nil => True
  | .one kd t => (kd = 1 ∨ kd = 19) ∧ t.good
  | .pair t => t.good
  | .els t => t.good
def Nst.deep : Nst → Nat
  | .nil => 0
  | .one _ t => t.deep + 1
  | .pair t => t.deep + 2
  | .els t => t.deep + 1
/-- is it not too deep, and without an otherwise on its own? -/
def Nst.ok : Nst → Int → Bool
  | .nil, _ => true
  | .one _ t, d => !decide (200 < d) && t.ok (d + 1)
  | .pair t, d => !decide (200 < d) && (!decide (200 < d + 1) && t.ok (d + 2))
  | .els _, _ => false
/-- a value is a list of one instruction of a kind, whose own list is v' -/
def InstrAt (w : World) (n0 kd : Nat) (v v' : Value) : Prop := ∃ q off, v = .slice (some ⟨q, off, none⟩) 1 1 ∧ q < n0 ∧ ∃ rc ty fz, w.heap[q]? = some (.cells rc ty fz) ∧ ∃ (O : Opq) (ρ : Rho), @Opq.val O 100 = v' ∧ @CR O ρ (icells kd (.opq 100)) rc off
def NestV (w : World) (n0 : Nat) : List Nat → Value → Prop
  | [], v => v = .slice none 0 0
  | kd :: ks, v => ∃ v', InstrAt w n0 kd v v' ∧ NestV w n0 ks v'
theorem InstrAt.below {w w' : World} {n0 n kd : Nat} {v v' : Value} (hn : n0 ≤ n) (hB : Below n w w') (h : InstrAt w n0 kd v v') : InstrAt w' n0 kd v v' := by
  obtain ⟨q, off, h1, h2, rc, ty, fz, h3, h4⟩ := h
  exact ⟨q, off, h1, h2, rc, ty, fz, by rw [hB.block q (by omega)]; exact h3, h4⟩
theorem NestV.below {w w' : World} {n0 n : Nat} (hn : n0 ≤ n) (hB : Below n w w') : ∀ {ks : List Nat} {v : Value}, NestV w n0 ks v → NestV w' n0 ks v
  | [], _, h => h
  | _ :: _, _, h => by
    obtain ⟨v', h1, h2⟩ := h
    exact ⟨v', h1.below hn hB, h2.below hn hB⟩
theorem NestV.slice {w : World} {n0 : Nat} : ∀ {ks : List Nat} {v : Value}, NestV w n0 ks v → ∃ a l c, v = .slice a l c
  | [], _, h => ⟨none, 0, 0, h⟩
  | _ :: _, _, h => by
    obtain ⟨v', ⟨q, off, h1, _⟩, _⟩ := h
    exact ⟨_, _, _, h1⟩
/-- is a value the same under any names? -/
def plain : SV → Bool
  | .bool _ => true | .int .. => true | .flt .. => true | .str .. => true | .nilp => true | .nils => true | .nilm => true | .nilf => true | .nili => true
  | _ => false
theorem plain_VR {O O' : Opq} {ρ ρ' : Rho} {x : SV} {v : Value} (h : plain x = true) (hv : @VR O ρ x v) : @VR O' ρ' x v := by
  cases x <;> simp [plain] at h <;> simpa [VR] using hv
theorem cr_swap {O O' : Opq} {ρ ρ' : Rho} {a b : List SV} {x x' : SV} {rc : Array Value} {base : Nat} {v' : Value} (ha : a.all plain = true) (hb : b.all plain = true) (h : @CR O ρ (a ++ x :: b) rc base) (hv : rc[base + a.length]? = some v') (hx : @VR O' ρ' x' v') :
    @CR O' ρ' (a ++ x' :: b) rc base := by
  intro i y hy
  rcases Nat.lt_trichotomy i a.length with hi | hi | hi
  · rw [List.getElem?_append_left hi] at hy
    obtain ⟨u, h1, h2⟩ := h i y (by rw [List.getElem?_append_left hi]; exact hy)
    exact ⟨u, h1, plain_VR (List.all_eq_true.1 ha y (List.mem_of_getElem? hy)) h2⟩
  · subst hi
    rw [List.getElem?_append_right (Nat.le_refl _), Nat.sub_self] at hy
    simp only [List.getElem?_cons_zero, Option.some.injEq] at hy
    subst hy
    exact ⟨v', hv, hx⟩
  · rw [List.getElem?_append_right (by omega)] at hy
    obtain ⟨u, h1, h2⟩ := h i (x := y) (by
      rw [List.getElem?_append_right (by omega)]
      obtain ⟨j, hj⟩ : ∃ j, i - a.length = j + 1 := ⟨i - a.length - 1, by omega⟩
      rw [hj] at hy ⊢
      simpa using hy)
    obtain ⟨j, hj⟩ : ∃ j, i - a.length = j + 1 := ⟨i - a.length - 1, by omega⟩
    rw [hj] at hy
    simp only [List.getElem?_cons_succ] at hy
    exact ⟨u, h1, plain_VR (List.all_eq_true.1 hb y (List.mem_of_getElem? hy)) h2⟩
theorem icells_swap {O O' : Opq} {ρ ρ' : Rho} {kd : Nat} {x x' : SV} {rc : Array Value} {base : Nat} {v' : Value} (h : @CR O ρ (icells kd x) rc base) (hv : rc[base + 47]? = some v') (hx : @VR O' ρ' x' v') : @CR O' ρ' (icells kd x') rc base := by
  unfold icells at h ⊢
  exact cr_swap (a := SV.int .i64 (.ofNat kd) :: preT) rfl rfl h hv hx
theorem icells_at {O : Opq} {ρ : Rho} {kd : Nat} {x : SV} {rc : Array Value} {base : Nat} (h : @CR O ρ (icells kd x) rc base) : ∃ v', rc[base + 47]? = some v' ∧ @VR O ρ x v' := h 47 x rfl
/-- the kinds of the first i instructions, from without -/
def lev (m : Nat) : Nat → List Nat
  | 0 => []
  | i + 1 => kdAt m i :: lev m i
theorem nestBs_mem {G m : Nat} : ∀ {cnt i : Nat}, i < cnt → (Nat.add G i, 39, icells (kdAt m i) (topV G i)) ∈ nestBs G m cnt
  | 0, i, h => absurd h (Nat.not_lt_zero _)
  | cnt + 1, i, h => by
    unfold nestBs
    by_cases e : i = cnt
    · subst e; exact List.mem_cons_self ..
    · exact List.mem_cons_of_mem _ (nestBs_mem (by omega))
theorem nest_of_bs [O : Opq] {ρ : Rho} {w : World} {G m cnt n0 : Nat} (hb : ∀ b q base e, ρ b = some (q, base, e) → q < n0)
    (hbs : ∀ x ∈ nestBs G m cnt, ∀ q base e, ρ x.1 = some (q, base, e) → BR ρ base e (.ro x.2.1 x.2.2) w.heap[q]?) : ∀ (i : Nat), i ≤ cnt → ∀ v, VR ρ (topV G i) v → NestV w n0 (lev m i) v
  | 0, _, v, hv => by
    show v = .slice none 0 0
    simpa [topV, VR] using hv
  | i + 1, hi, v, hv => by
    simp only [topV, VR] at hv
    obtain ⟨q, base, e, hρ, rfl⟩ := hv
    have hB := hbs _ (nestBs_mem (G := G) (m := m) (show i < cnt by omega)) q base e hρ
    obtain ⟨rc, ty, fz, h1, h2⟩ := hB
    obtain ⟨v', h3, h4⟩ := icells_at h2
    have hn := nest_of_bs hb hbs i (by omega) v' h4
    obtain ⟨a, l, c, rfl⟩ := hn.slice
    refine ⟨_, ⟨q, base, by rw [Nat.add_zero], hb _ _ _ _ hρ, rc, ty, fz, h1, opqPd { a := a, l := l, c := c }, ρ, rfl, ?_⟩, hn⟩
    exact icells_swap h2 h3 (by simp only [VR]; rfl)
/-- the answer: still, or bad -/
def resV (b : Bool) : SV := cond b (.agg [.int .i64 0, .int .i64 0]) (.agg [.int .i64 4, .int .i64 2])
def resW (b : Bool) : Value := cond b (.agg #[.int .i64 0, .int .i64 0]) (.agg #[.int .i64 4, .int .i64 2])
theorem resV_VR [Opq] {ρ : Rho} (b : Bool) (v : Value) : VR ρ (resV b) v ↔ v = resW b := by
  cases b <;> simp [resV, resW, VR, VRs]
/-- the table with the calls of f that are known -/
def pdX (X : Nat → Option XK) (f : Nat) (rows : List KRow) (g : Nat) : Option XK := cond (Nat.beq g f) (some (.known rows)) (X g)
theorem pdX_ok [Opq] {I : Rho → World → Prop} {P : Program} {X : Nat → Option XK} {f : Nat} {rows : List KRow} (hX : XOk I P X) (h : ∀ r ∈ rows, KRowOk I P f r) : XOk I P (pdX X f rows) where
  ext g k hg hk := by
    unfold pdX at hg
    cases hb : Nat.beq g f with
    | true => rw [hb, cond_true] at hg; cases hg; cases hk
    | false => rw [hb, cond_false] at hg; exact hX.ext g k hg hk
  known g rs hg := by
    unfold pdX at hg
    cases hb : Nat.beq g f with
    | true =>
      rw [hb, cond_true] at hg
      cases hg
      obtain rfl := Nat.eq_of_beq_eq_true hb
      exact h
    | false => rw [hb, cond_false] at hg; exact hX.known g rs hg
/-- what is laid, and a list of nested instructions -/
def PI [Opq] (K : Hp) (ρ0 : Rho) (n0 : Nat) (ks : List Nat) (v : Value) (ρ : Rho) (w : World) : Prop := LaidI K ρ0 n0 ρ w ∧ NestV w n0 ks v
theorem PI.ki [Opq] {K : Hp} {ρ0 : Rho} {n0 : Nat} {ks : List Nat} {v : Value} (ro : ∀ b, writable (K.get b) = false) : KI (PI K ρ0 n0 ks v) K where
  live ρ w h := (LaidI.ki ro).live ρ w h.1
  ro := ro
  bound _ w h := ⟨⟨w.heap.size, fun ρ ρ' w1 w2 h1 hle hB => ⟨LaidI.stable h.1.2.1 ρ ρ' w1 w2 h1.1 hle hB, h1.2.below h.1.2.1 hB⟩⟩, rfl⟩
end Go.Pd
namespace Go.Pd
open Go Go.Sh
open Go.RowKit (Below)
variable {P : Program} {e0 : Nat → Bool} {X : Nat → Option XK} {K : Hp} {G : Nat} {f : FuncId} {mk : SV → SV → List SV} {mv : Value → Value → List Value}
noncomputable def pdRun (P : Program) (e0 : Nat → Bool) (X : Nat → Option XK) (K : Hp) (f : FuncId) (mk : SV → SV → List SV) (o : PO) (rows : List KRow) (bs : List (Nat × Nat × List SV)) (nx : Nat) (l res : SV) : Bool :=
  (ev (pdE e0 o) (pdX X f rows) P 1001).f.f f (mk (.opq 200) l) ⟨rowHp K bs, nx, big⟩ (rowEnd ⟨nx, mk (.opq 200) l, bs, res, none⟩) (fun _ _ => false)
def bs1 (G kd : Nat) : List (Nat × Nat × List SV) := [(G, 39, icells kd (.opq 100))]
def bs2 (G : Nat) : List (Nat × Nat × List SV) := [(G, 39, icells 16 (.slc (G + 1) 0 1 1)), (G + 1, 39, icells 18 (.opq 100))]
/-- the evaluations of one step -/
structure PdEvs (P : Program) (e0 : Nat → Bool) (X : Nat → Option XK) (K : Hp) (G : Nat) (f : FuncId) (mk : SV → SV → List SV) : Prop where
  nil : pdRun P e0 X K f mk {} [] [] G .nils (resV true) = true
  deep : ∀ kd ∈ [1, 19, 16, 18], pdRun P e0 X K f mk { d0 := some true } [] (bs1 G kd) (G + 1) (.slc G 0 1 1) (resV false) = true
  one : ∀ kd ∈ [1, 19], ∀ r : Bool, pdRun P e0 X K f mk { d0 := some false } [⟨0, mk (.opq 201) (.opq 100), [], resV r, none⟩] (bs1 G kd) (G + 1) (.slc G 0 1 1) (resV r) = true
  els : pdRun P e0 X K f mk { d0 := some false } [] (bs1 G 18) (G + 1) (.slc G 0 1 1) (resV false) = true
  ch1 : pdRun P e0 X K f mk { d0 := some false, d1 := some true } [] (bs2 G) (G + 2) (.slc G 0 1 1) (resV false) = true
  ch2 : ∀ r : Bool, pdRun P e0 X K f mk { d0 := some false, d1 := some false } [⟨0, mk (.opq 202) (.opq 100), [], resV r, none⟩] (bs2 G) (G + 2) (.slc G 0 1 1) (resV r) = true
/-- what is asked of the program -/
structure PdPr (P : Program) (e0 : Nat → Bool) (X : Nat → Option XK) (K : Hp) (G : Nat) (f : FuncId) (mk : SV → SV → List SV) (mv : Value → Value → List Value) : Prop where
  mixed : P.follows .mixedOrders = true
  size : P.globals.size = G
  pos : Nat.beq G 0 = false
  e : ∀ t, e0 t = true → P.stoodInHeld t = false ∧ P.eqGuardType P.depth t = false
  x : ∀ (_ : Opq) (I : Rho → World → Prop), XOk I P X
  body : (bodyOf P f).isSome = true
  ro : ∀ b, writable (K.get b) = false
  plain : ∀ b, K.get b = .none ∨ ∃ ty cs, K.get b = .ro ty cs ∧ cs.all plain = true
  vk : ∀ (O : Opq) (ρ : Rho) (i : Nat) (l : SV) (lv : Value), @VR O ρ l lv → @VRs O ρ (mk (.opq i) l) (mv (@Opq.val O i) lv)
  km : ∀ (O : Opq) (ρ : Rho) (i j : Nat) (args : List Value), @VRs O ρ (mk (.opq i) (.opq j)) args → args = mv (@Opq.val O i) (@Opq.val O j)
  km1 : ∀ (O : Opq) (ρ : Rho) (n : Int) (j : Nat) (args : List Value), @VRs O ρ (mk (.int .i64 n) (.opq j)) args → args = mv (.int .i64 n) (@Opq.val O j)
  sc : ∀ (nx : Nat) (args : List SV) (bs : List (Nat × Nat × List SV)) (b : Bool), rowSc ⟨nx, args, bs, resV b, none⟩ = true
theorem laid_any (hK : ∀ b, K.get b = .none ∨ ∃ ty cs, K.get b = .ro ty cs ∧ cs.all plain = true) {O O' : Opq} {ρ0 ρ : Rho} {n0 : Nat} {w : World} (h : @LaidI O K ρ0 n0 ρ w) : @LaidI O' K ρ0 n0 ρ w := by
  refine ⟨h.1, h.2.1, h.2.2.1, fun b q base e hq => ⟨(h.2.2.2 b q base e hq).1, ?_⟩⟩
  have hB := (h.2.2.2 b q base e hq).2
  rcases hK b with hn | ⟨ty, cs, hn, hc⟩
  · rw [hn]; simp [BR]
  · rw [hn] at hB ⊢
    obtain ⟨rc, ty', fz, h1, h2⟩ := hB
    refine ⟨rc, ty', fz, h1, fun i x hx => ?_⟩
    obtain ⟨u, h3, h4⟩ := h2 i x hx
    exact ⟨u, h3, plain_VR (List.all_eq_true.1 hc x (List.mem_of_getElem? hx)) h4⟩
theorem laid_self [Opq] {ρ0 ρ : Rho} {n0 : Nat} {w : World} (h : LaidI K ρ0 n0 ρ w) : LaidI K ρ0 n0 ρ0 w := ⟨Rho.le_refl _, h.2⟩
theorem row_use [Opq] {I : Rho → World → Prop} {nx : Nat} {args : List SV} {bs : List (Nat × Nat × List SV)} {b : Bool} (hr : KRowOk I P f ⟨nx, args, bs, resV b, none⟩) {ρ : Rho} {w : World} {vs : List Value} (hI : I ρ w) (hG : Glob P.globals.size ρ)
    (hf : ∀ i, nx ≤ i → ρ i = none) (hb : ∀ b q base e, ρ b = some (q, base, e) → q < w.heap.size) (hbs : ∀ x ∈ bs, ∀ q base e, ρ x.1 = some (q, base, e) → BR ρ base e (.ro x.2.1 x.2.2) w.heap[q]?) (ha : VRs ρ args vs) :
    Calls P f vs.toArray w (fun e w' => e = .returned (resW b) ∧ Below w.heap.size w w') := by
  refine (hr.calls ρ w vs hI hG (fun _ => hf) hb hbs ha).mono fun e w' he => ?_
  obtain ⟨v, rfl, hB, hv⟩ := he
  unfold RowEnd at hv
  simp only at hv
  rw [(resV_VR b v).1 hv]
  exact ⟨rfl, hB⟩
/-- names of two further blocks -/
def rho2 (ρ0 : Rho) (G : Nat) (x0 x1 : Option (Nat × Nat × Nat)) : Rho := fun b => if b < G then ρ0 b else if b = G then x0 else if b = G + 1 then x1 else none
theorem rho2_le {ρ0 : Rho} {x0 x1 : Option (Nat × Nat × Nat)} (h0 : ∀ b, G ≤ b → ρ0 b = none) : ρ0.le (rho2 ρ0 G x0 x1) := fun b x hx => by
  have hlt : b < G := by
    rcases Nat.lt_or_ge b G with h | h
    · exact h
    · rw [h0 b h] at hx; cases hx
  unfold rho2
  rw [if_pos hlt]
  exact hx
theorem rho2_at0 {ρ0 : Rho} {x0 x1 : Option (Nat × Nat × Nat)} : rho2 ρ0 G x0 x1 G = x0 := by unfold rho2; rw [if_neg (by omega), if_pos rfl]
theorem rho2_at1 {ρ0 : Rho} {x0 x1 : Option (Nat × Nat × Nat)} : rho2 ρ0 G x0 x1 (G + 1) = x1 := by unfold rho2; rw [if_neg (by omega), if_neg (by omega), if_pos rfl]
theorem rho2_cases {ρ0 : Rho} {x0 x1 : Option (Nat × Nat × Nat)} {b : Nat} {y : Nat × Nat × Nat} (h : rho2 ρ0 G x0 x1 b = some y) : ρ0 b = some y ∨ (b = G ∧ x0 = some y) ∨ (b = G + 1 ∧ x1 = some y) := by
  unfold rho2 at h
  split at h
  · exact .inl h
  · split at h
    · exact .inr (.inl ⟨by assumption, h⟩)
    · split at h
      · exact .inr (.inr ⟨by assumption, h⟩)
      · cases h
theorem rho2_none {ρ0 : Rho} {x0 x1 : Option (Nat × Nat × Nat)} {b : Nat} (h : G + 2 ≤ b) : rho2 ρ0 G x0 x1 b = none := by unfold rho2; rw [if_neg (by omega), if_neg (by omega), if_neg (by omega)]
theorem rho2_none1 {ρ0 : Rho} {x0 : Option (Nat × Nat × Nat)} {b : Nat} (h : G + 1 ≤ b) : rho2 ρ0 G x0 none b = none := by
  unfold rho2; rw [if_neg (by omega), if_neg (by omega)]; split <;> rfl
theorem pd_row (E : PdPr P e0 X K G f mk mv) {pv : PV} {o : PO} (hO : POk pv o) {I : Rho → World → Prop} {nx : Nat} {l : SV} {bs : List (Nat × Nat × List SV)} {rows : List KRow} {b : Bool} (hK : letI := opqPd pv; KI I K) (hnx : Nat.beq nx 0 = false)
    (hrows : letI := opqPd pv; ∀ r ∈ rows, KRowOk I P f r) (h : pdRun P e0 X K f mk o rows bs nx l (resV b) = true) : letI := opqPd pv; KRowOk I P f ⟨nx, mk (.opq 200) l, bs, resV b, none⟩ := by
  letI := opqPd pv
  exact krow_of_ev (E := pdE e0 o) (X := pdX X f rows) (m := 1000) E.mixed ⟨pd_ok E.e hO⟩ (pdX_ok (E.x _ I) hrows) hK hnx (E.sc _ _ _ _) E.body h
theorem ok_one {kd : Nat} {t : Nst} {d : Int} : (Nst.one kd t).ok d = (!decide (200 < d) && t.ok (d + 1)) := rfl
theorem ok_pair {t : Nst} {d : Int} : (Nst.pair t).ok d = (!decide (200 < d) && (!decide (200 < d + 1) && t.ok (d + 2))) := rfl
/-- the row of the inner call -/
theorem pd_inner (E : PdPr P e0 X K G f mk mv) [O : Opq] {ρ0 : Rho} {n0 : Nat} {ks : List Nat} {i : Nat} {b : Bool}
    (ih : ∀ w, (∀ O' : Opq, @LaidI O' K ρ0 n0 ρ0 w) → NestV w n0 ks (Opq.val 100) → Calls P f (mv (Opq.val i) (Opq.val 100)).toArray w (fun e w' => e = .returned (resW b) ∧ Below w.heap.size w w')) :
    KRowOk (PI K ρ0 n0 ks (Opq.val 100)) P f ⟨0, mk (.opq i) (.opq 100), [], resV b, none⟩ := by
  refine ⟨E.body, fun ρ w args' hI _ _ _ _ hargs => ?_⟩
  obtain rfl := E.km O ρ i 100 args' hargs
  refine (ih w (fun O' => @laid_any K E.plain O O' ρ0 ρ0 n0 w (@laid_self K O ρ0 ρ n0 w hI.1)) hI.2).mono fun e w' he => ?_
  obtain ⟨rfl, hB⟩ := he
  exact ⟨_, rfl, hB, (resV_VR b _).2 rfl⟩
theorem body_says (E : PdPr P e0 X K G f mk mv) (V : PdEvs P e0 X K G f mk) {ρ0 : Rho} {n0 : Nat} (h0 : ∀ b, G ≤ b → ρ0 b = none) (hG : Glob P.globals.size ρ0) : ∀ (t : Nst), t.good → ∀ (w : World) (d : Int) (v : Value),
    (∀ O : Opq, @LaidI O K ρ0 n0 ρ0 w) → NestV w n0 t.flat v → 0 ≤ d → d + t.deep ≤ 1000000 → Calls P f (mv (.int .i64 d) v).toArray w (fun e w' => e = .returned (resW (t.ok d)) ∧ Below w.heap.size w w')
  | .nil, _, w, d, v, hL, hN, hd, hd' => by
    have hv : v = .slice none 0 0 := hN
    subst hv
    have hO : POk { d := d } {} := ⟨fun _ h => (by cases h), fun _ h => (by cases h), fun _ h => (by cases h), fun _ h => (by cases h), rfl, rfl, (show (0 : Nat) < 256 by decide), hd, (by simp [Nst.deep] at hd'; exact hd')⟩
    letI := opqPd { d := d }
    have hr := pd_row E hO (I := LaidI K ρ0 n0) (LaidI.ki E.ro) E.pos (fun _ h => by cases h) V.nil
    have hLi := hL (opqPd { d := d })
    exact row_use hr (ρ := ρ0) hLi hG h0 (fun b q base e hq => Nat.lt_of_lt_of_le (hLi.2.2.2 b q base e hq).1 hLi.2.1) (fun x hx => by cases hx) (E.vk _ _ 200 .nils _ (by simp [VR]))
  | .one kd t, hg, w, d, v, hL, hN, hd, hd' => by
    obtain ⟨v', ⟨q, off, rfl, hq, rc, ty, fz, hh, O1, ρ1, e1, hc⟩, hN'⟩ := hN
    obtain ⟨a, l, c, rfl⟩ := hN'.slice
    have hdd : d ≤ 1000000 := by omega
    have hkd : kd ∈ [1, 19] := by rcases hg.1 with rfl | rfl <;> simp
    have hkd' : kd ∈ [1, 19, 16, 18] := by rcases hg.1 with rfl | rfl <;> simp
    letI O := opqPd { a := a, l := l, c := c, d := d }
    have hLi := hL O
    have hqs : q < w.heap.size := Nat.lt_of_lt_of_le hq hLi.2.1
    obtain ⟨u, hu1, hu2⟩ := icells_at hc
    have hu3 : u = .slice a l c := by simp only [VR] at hu2; rw [hu2, e1]
    have hBR : ∀ x ∈ bs1 G kd, ∀ q' base e, rho2 ρ0 G (some (q, off, 0)) none x.1 = some (q', base, e) → BR (rho2 ρ0 G (some (q, off, 0)) none) base e (.ro x.2.1 x.2.2) w.heap[q']? := by
      intro x hx q' base e hρ
      simp only [bs1, List.mem_cons, List.not_mem_nil, or_false] at hx
      subst hx
      simp only [rho2_at0, Option.some.injEq, Prod.mk.injEq] at hρ
      obtain ⟨rfl, rfl, rfl⟩ := hρ
      exact ⟨rc, ty, fz, hh, icells_swap hc hu1 (by simp only [VR]; rw [hu3]; rfl)⟩
    have hbd : ∀ b q' base e, rho2 ρ0 G (some (q, off, 0)) none b = some (q', base, e) → q' < w.heap.size := by
      intro b q' base e hρ
      rcases rho2_cases hρ with h | ⟨_, h⟩ | ⟨_, h⟩
      · exact Nat.lt_of_lt_of_le (hLi.2.2.2 b q' base e h).1 hLi.2.1
      · cases h; exact hqs
      · cases h
    have hargs : VRs (rho2 ρ0 G (some (q, off, 0)) none) (mk (.opq 200) (.slc G 0 1 1)) (mv (.int .i64 d) (.slice (some ⟨q, off, none⟩) 1 1)) := E.vk O _ 200 _ _ (by simp only [VR]; exact ⟨q, off, 0, rho2_at0, by rw [Nat.add_zero]⟩)
    have hI : PI K ρ0 n0 t.flat (.slice a l c) (rho2 ρ0 G (some (q, off, 0)) none) w := ⟨⟨rho2_le h0, hLi.2⟩, hN'⟩
    cases hdeep : decide (200 < d) with
    | true =>
      have hO : POk { a := a, l := l, c := c, d := d } { d0 := some true } := ⟨fun b h => (by cases h; exact hdeep.symm), fun _ h => (by cases h), fun _ h => (by cases h), fun _ h => (by cases h), rfl, rfl, (show (0 : Nat) < 256 by decide), hd, hdd⟩
      have hr := pd_row E hO (I := PI K ρ0 n0 t.flat (.slice a l c)) (PI.ki E.ro) rfl (fun _ h => by cases h) (V.deep kd hkd')
      have := row_use hr hI (hG.mono (rho2_le h0)) (fun i hi => rho2_none1 hi) hbd hBR hargs
      rw [show (Nst.one kd t).ok d = false by rw [ok_one, hdeep]; rfl]
      exact this
    | false =>
      have hO : POk { a := a, l := l, c := c, d := d } { d0 := some false } := ⟨fun b h => (by cases h; exact hdeep.symm), fun _ h => (by cases h), fun _ h => (by cases h), fun _ h => (by cases h), rfl, rfl, (show (0 : Nat) < 256 by decide), hd, hdd⟩
      have hin := pd_inner E (ρ0 := ρ0) (n0 := n0) (ks := t.flat) (i := 201) (b := t.ok (d + 1)) (fun w1 h1 h2 => body_says E V h0 hG t hg.2 w1 (d + 1) (.slice a l c) h1 h2 (by omega) (by simp [Nst.deep] at hd'; omega))
      have hr := pd_row E hO (I := PI K ρ0 n0 t.flat (.slice a l c)) (PI.ki E.ro) rfl (fun r h => by
        simp only [List.mem_cons, List.not_mem_nil, or_false] at h
        subst h
        exact hin) (V.one kd hkd (t.ok (d + 1)))
      have := row_use hr hI (hG.mono (rho2_le h0)) (fun i hi => rho2_none1 hi) hbd hBR hargs
      rw [show (Nst.one kd t).ok d = t.ok (d + 1) by rw [ok_one, hdeep]; rfl]
      exact this
  | .els t, hg, w, d, v, hL, hN, hd, hd' => by
    obtain ⟨v', ⟨q, off, rfl, hq, rc, ty, fz, hh, O1, ρ1, e1, hc⟩, hN'⟩ := hN
    obtain ⟨a, l, c, rfl⟩ := hN'.slice
    have hdd : d ≤ 1000000 := by omega
    letI O := opqPd { a := a, l := l, c := c, d := d }
    have hLi := hL O
    have hqs : q < w.heap.size := Nat.lt_of_lt_of_le hq hLi.2.1
    obtain ⟨u, hu1, hu2⟩ := icells_at hc
    have hu3 : u = .slice a l c := by simp only [VR] at hu2; rw [hu2, e1]
    have hBR : ∀ x ∈ bs1 G 18, ∀ q' base e, rho2 ρ0 G (some (q, off, 0)) none x.1 = some (q', base, e) → BR (rho2 ρ0 G (some (q, off, 0)) none) base e (.ro x.2.1 x.2.2) w.heap[q']? := by
      intro x hx q' base e hρ
      simp only [bs1, List.mem_cons, List.not_mem_nil, or_false] at hx
      subst hx
      simp only [rho2_at0, Option.some.injEq, Prod.mk.injEq] at hρ
      obtain ⟨rfl, rfl, rfl⟩ := hρ
      exact ⟨rc, ty, fz, hh, icells_swap hc hu1 (by simp only [VR]; rw [hu3]; rfl)⟩
    have hbd : ∀ b q' base e, rho2 ρ0 G (some (q, off, 0)) none b = some (q', base, e) → q' < w.heap.size := by
      intro b q' base e hρ
      rcases rho2_cases hρ with h | ⟨_, h⟩ | ⟨_, h⟩
      · exact Nat.lt_of_lt_of_le (hLi.2.2.2 b q' base e h).1 hLi.2.1
      · cases h; exact hqs
      · cases h
    have hargs : VRs (rho2 ρ0 G (some (q, off, 0)) none) (mk (.opq 200) (.slc G 0 1 1)) (mv (.int .i64 d) (.slice (some ⟨q, off, none⟩) 1 1)) := E.vk O _ 200 _ _ (by simp only [VR]; exact ⟨q, off, 0, rho2_at0, by rw [Nat.add_zero]⟩)
    have hI : PI K ρ0 n0 t.flat (.slice a l c) (rho2 ρ0 G (some (q, off, 0)) none) w := ⟨⟨rho2_le h0, hLi.2⟩, hN'⟩
    rw [show (Nst.els t).ok d = false from rfl]
    cases hdeep : decide (200 < d) with
    | true =>
      have hO : POk { a := a, l := l, c := c, d := d } { d0 := some true } := ⟨fun b h => (by cases h; exact hdeep.symm), fun _ h => (by cases h), fun _ h => (by cases h), fun _ h => (by cases h), rfl, rfl, (show (0 : Nat) < 256 by decide), hd, hdd⟩
      have hr := pd_row E hO (I := PI K ρ0 n0 t.flat (.slice a l c)) (PI.ki E.ro) rfl (fun _ h => by cases h) (V.deep 18 (by simp))
      exact row_use hr hI (hG.mono (rho2_le h0)) (fun i hi => rho2_none1 hi) hbd hBR hargs
    | false =>
      have hO : POk { a := a, l := l, c := c, d := d } { d0 := some false } := ⟨fun b h => (by cases h; exact hdeep.symm), fun _ h => (by cases h), fun _ h => (by cases h), fun _ h => (by cases h), rfl, rfl, (show (0 : Nat) < 256 by decide), hd, hdd⟩
      have hr := pd_row E hO (I := PI K ρ0 n0 t.flat (.slice a l c)) (PI.ki E.ro) rfl (fun _ h => by cases h) V.els
      exact row_use hr hI (hG.mono (rho2_le h0)) (fun i hi => rho2_none1 hi) hbd hBR hargs
  | .pair t, hg, w, d, v, hL, hN, hd, hd' => by
    obtain ⟨v', ⟨q, off, rfl, hq, rc, ty, fz, hh, O1, ρ1, e1, hc⟩, v2, ⟨q2, off2, rfl, hq2, rc2, ty2, fz2, hh2, O2, ρ2, e2, hc2⟩, hN'⟩ := hN
    obtain ⟨a, l, c, rfl⟩ := hN'.slice
    have hdd : d ≤ 1000000 := by omega
    letI O := opqPd { a := a, l := l, c := c, d := d }
    have hLi := hL O
    have hqs : q < w.heap.size := Nat.lt_of_lt_of_le hq hLi.2.1
    have hqs2 : q2 < w.heap.size := Nat.lt_of_lt_of_le hq2 hLi.2.1
    obtain ⟨u, hu1, hu2⟩ := icells_at hc
    have hu3 : u = .slice (some ⟨q2, off2, none⟩) 1 1 := by simp only [VR] at hu2; rw [hu2, e1]
    obtain ⟨u2, hv1, hv2⟩ := icells_at hc2
    have hv3 : u2 = .slice a l c := by simp only [VR] at hv2; rw [hv2, e2]
    have hBR : ∀ x ∈ bs2 G, ∀ q' base e, rho2 ρ0 G (some (q, off, 0)) (some (q2, off2, 0)) x.1 = some (q', base, e) → BR (rho2 ρ0 G (some (q, off, 0)) (some (q2, off2, 0))) base e (.ro x.2.1 x.2.2) w.heap[q']? := by
      intro x hx q' base e hρ
      simp only [bs2, List.mem_cons, List.not_mem_nil, or_false] at hx
      rcases hx with rfl | rfl
      · simp only [rho2_at0, Option.some.injEq, Prod.mk.injEq] at hρ
        obtain ⟨rfl, rfl, rfl⟩ := hρ
        exact ⟨rc, ty, fz, hh, icells_swap hc hu1 (by simp only [VR]; exact ⟨q2, off2, 0, rho2_at1, by rw [hu3, Nat.add_zero]⟩)⟩
      · simp only [rho2_at1, Option.some.injEq, Prod.mk.injEq] at hρ
        obtain ⟨rfl, rfl, rfl⟩ := hρ
        exact ⟨rc2, ty2, fz2, hh2, icells_swap hc2 hv1 (by simp only [VR]; rw [hv3]; rfl)⟩
    have hbd : ∀ b q' base e, rho2 ρ0 G (some (q, off, 0)) (some (q2, off2, 0)) b = some (q', base, e) → q' < w.heap.size := by
      intro b q' base e hρ
      rcases rho2_cases hρ with h | ⟨_, h⟩ | ⟨_, h⟩
      · exact Nat.lt_of_lt_of_le (hLi.2.2.2 b q' base e h).1 hLi.2.1
      · cases h; exact hqs
      · cases h; exact hqs2
    have hargs : ∀ x1, VRs (rho2 ρ0 G (some (q, off, 0)) x1) (mk (.opq 200) (.slc G 0 1 1)) (mv (.int .i64 d) (.slice (some ⟨q, off, none⟩) 1 1)) := fun x1 => E.vk O _ 200 _ _ (by simp only [VR]; exact ⟨q, off, 0, rho2_at0, by rw [Nat.add_zero]⟩)
    have hI : PI K ρ0 n0 t.flat (.slice a l c) (rho2 ρ0 G (some (q, off, 0)) (some (q2, off2, 0))) w := ⟨⟨rho2_le h0, hLi.2⟩, hN'⟩
    cases hdeep : decide (200 < d) with
    | true =>
      letI O3 := opqPd { a := some ⟨q2, off2, none⟩, l := 1, c := 1, d := d }
      have hL3 := hL O3
      have hO : POk { a := some ⟨q2, off2, none⟩, l := 1, c := 1, d := d } { d0 := some true } := ⟨fun b h => (by cases h; exact hdeep.symm), fun _ h => (by cases h), fun _ h => (by cases h), fun _ h => (by cases h), rfl, rfl, (show (0 : Nat) < 256 by decide), hd, hdd⟩
      have hr := pd_row E hO (I := LaidI K ρ0 n0) (LaidI.ki E.ro) rfl (fun _ h => by cases h) (V.deep 16 (by simp))
      rw [show (Nst.pair t).ok d = false by rw [ok_pair, hdeep]; rfl]
      refine row_use hr (ρ := rho2 ρ0 G (some (q, off, 0)) none) ⟨rho2_le h0, hL3.2⟩ (hG.mono (rho2_le h0)) (fun i hi => rho2_none1 hi) (fun b q' base e hρ => ?_) (fun x hx q' base e hρ => ?_) (E.vk O3 _ 200 _ _ (by simp only [VR]; exact ⟨q, off, 0, rho2_at0, by rw [Nat.add_zero]⟩))
      · rcases rho2_cases hρ with h | ⟨_, h⟩ | ⟨_, h⟩
        · exact Nat.lt_of_lt_of_le (hLi.2.2.2 b q' base e h).1 hLi.2.1
        · cases h; exact hqs
        · cases h
      · simp only [bs1, List.mem_cons, List.not_mem_nil, or_false] at hx
        subst hx
        simp only [rho2_at0, Option.some.injEq, Prod.mk.injEq] at hρ
        obtain ⟨rfl, rfl, rfl⟩ := hρ
        exact ⟨rc, ty, fz, hh, icells_swap hc hu1 (by simp only [VR]; rw [hu3]; rfl)⟩
    | false =>
      cases hdeep1 : decide (200 < d + 1) with
      | true =>
        have hO : POk { a := a, l := l, c := c, d := d } { d0 := some false, d1 := some true } := ⟨fun b h => (by cases h; exact hdeep.symm), fun b h => (by cases h; exact hdeep1.symm), fun _ h => (by cases h), fun _ h => (by cases h), rfl, rfl, (show (0 : Nat) < 256 by decide), hd, hdd⟩
        have hr := pd_row E hO (I := PI K ρ0 n0 t.flat (.slice a l c)) (PI.ki E.ro) rfl (fun _ h => by cases h) V.ch1
        have := row_use hr hI (hG.mono (rho2_le h0)) (fun i hi => rho2_none hi) hbd hBR (hargs _)
        rw [show (Nst.pair t).ok d = false by rw [ok_pair, hdeep, hdeep1]; rfl]
        exact this
      | false =>
        have hO : POk { a := a, l := l, c := c, d := d } { d0 := some false, d1 := some false } := ⟨fun b h => (by cases h; exact hdeep.symm), fun b h => (by cases h; exact hdeep1.symm), fun _ h => (by cases h), fun _ h => (by cases h), rfl, rfl, (show (0 : Nat) < 256 by decide), hd, hdd⟩
        have hin := pd_inner E (ρ0 := ρ0) (n0 := n0) (ks := t.flat) (i := 202) (b := t.ok (d + 2)) (fun w1 h1 h2 => body_says E V h0 hG t hg w1 (d + 2) (.slice a l c) h1 h2 (by omega) (by simp [Nst.deep] at hd'; omega))
        have hr := pd_row E hO (I := PI K ρ0 n0 t.flat (.slice a l c)) (PI.ki E.ro) rfl (fun r h => by
          simp only [List.mem_cons, List.not_mem_nil, or_false] at h
          subst h
          exact hin) (V.ch2 (t.ok (d + 2)))
        have := row_use hr hI (hG.mono (rho2_le h0)) (fun i hi => rho2_none hi) hbd hBR (hargs _)
        rw [show (Nst.pair t).ok d = t.ok (d + 2) by rw [ok_pair, hdeep, hdeep1]; rfl]
        exact this
end Go.Pd
namespace Go.Pd
open Go Go.Sh
open Go.RowKit (Below)
variable {P : Program} {e0 : Nat → Bool} {X : Nat → Option XK} {K : Hp} {G : Nat} {f g : FuncId} {mk : Nat → SV → SV → List SV} {mv : Nat → Value → Value → List Value}
def tupV (b : Bool) : SV := cond b (.tup [.int .i64 0, .int .i64 0]) (.tup [.int .i64 4, .int .i64 2])
def tupW (b : Bool) : Value := cond b (.tuple #[.int .i64 0, .int .i64 0]) (.tuple #[.int .i64 4, .int .i64 2])
theorem tupV_VR [Opq] {ρ : Rho} (b : Bool) (v : Value) : VR ρ (tupV b) v ↔ v = tupW b := by
  cases b <;> simp [tupV, tupW, VR, VRs]
noncomputable def pdTop (P : Program) (e0 : Nat → Bool) (X : Nat → Option XK) (K : Hp) (G : Nat) (g f : FuncId) (o : PO) (rows : List KRow) (c : SV) (b : Bool) : Bool :=
  (ev (pdE e0 o) (pdX X f rows) P 1001).f.f g [.opq 100, c] ⟨rowHp K [], G, big⟩ (rowEnd ⟨G, [.opq 100, c], [], tupV b, none⟩) (fun _ _ => false)
/-- the evaluations of the outer function -/
structure PdTops (P : Program) (e0 : Nat → Bool) (X : Nat → Option XK) (K : Hp) (G : Nat) (g f : FuncId) (mk : Nat → SV → SV → List SV) : Prop where
  inn : ∀ c : Nat, c < 4 → ∀ r : Bool, pdTop P e0 X K G g f {} [⟨0, mk c (.int .i64 1) (.opq 100), [], resV r, none⟩] (.int .i64 (.ofNat c)) r = true
  four : pdTop P e0 X K G g f {} [] (.int .i64 4) false = true
  lo : pdTop P e0 X K G g f { lo := some true } [] (.opq 204) false = true
  hi : pdTop P e0 X K G g f { lo := some false, hi := some true } [] (.opq 204) false = true
  body : (bodyOf P g).isSome = true
theorem top_use [Opq] {I : Rho → World → Prop} {nx : Nat} {args : List SV} {b : Bool} (hr : KRowOk I P g ⟨nx, args, [], tupV b, none⟩) {ρ : Rho} {w : World} {vs : List Value} (hI : I ρ w) (hG : Glob P.globals.size ρ)
    (hf : ∀ i, nx ≤ i → ρ i = none) (hb : ∀ b q base e, ρ b = some (q, base, e) → q < w.heap.size) (ha : VRs ρ args vs) :
    Calls P g vs.toArray w (fun e w' => e = .returned (tupW b) ∧ Below w.heap.size w w') := by
  refine (hr.calls ρ w vs hI hG (fun _ => hf) hb (fun x hx => by cases hx) ha).mono fun e w' he => ?_
  obtain ⟨v, rfl, hB, hv⟩ := he
  unfold RowEnd at hv
  simp only at hv
  rw [(tupV_VR b v).1 hv]
  exact ⟨rfl, hB⟩
theorem top_row (E : PdPr P e0 X K G f (mk 0) (mv 0)) {pv : PV} {o : PO} (hO : POk pv o) {I : Rho → World → Prop} {c : SV} {rows : List KRow} {b : Bool} (hK : letI := opqPd pv; KI I K) (hbody : (bodyOf P g).isSome = true)
    (hrows : letI := opqPd pv; ∀ r ∈ rows, KRowOk I P f r) (h : pdTop P e0 X K G g f o rows c b = true) : letI := opqPd pv; KRowOk I P g ⟨G, [.opq 100, c], [], tupV b, none⟩ := by
  letI := opqPd pv
  exact krow_of_ev (E := pdE e0 o) (X := pdX X f rows) (m := 1000) E.mixed ⟨pd_ok E.e hO⟩ (pdX_ok (E.x _ I) hrows) hK E.pos (by cases b <;> rfl) hbody h
/-- is a context one in which something can be still? -/
def cxOk (c : Int) : Bool := decide (0 ≤ c) && decide (c < 4)
theorem top_says (E : ∀ c : Nat, c < 4 → PdPr P e0 X K G f (mk c) (mv c)) (V : ∀ c : Nat, c < 4 → PdEvs P e0 X K G f (mk c)) (T : PdTops P e0 X K G g f mk) {ρ0 : Rho} {n0 : Nat} (h0 : ∀ b, G ≤ b → ρ0 b = none) (hG : Glob P.globals.size ρ0)
    (t : Nst) (ht : t.good) (hdp : t.deep ≤ 1000) (w : World) (c : Int) (v : Value) (hL : ∀ O : Opq, @LaidI O K ρ0 n0 ρ0 w) (hN : NestV w n0 t.flat v) :
    Calls P g #[v, .int .i64 c] w (fun e w' => e = .returned (tupW (cxOk c && t.ok 1)) ∧ Below w.heap.size w w') := by
  have E0 := E 0 (by decide)
  obtain ⟨a, l, k, rfl⟩ := hN.slice
  have hbd : ∀ O : Opq, ∀ b q base e, ρ0 b = some (q, base, e) → q < w.heap.size := fun O b q base e hq => Nat.lt_of_lt_of_le ((hL O).2.2.2 b q base e hq).1 (hL O).2.1
  by_cases h1 : c < 0
  · have hO : POk { a := a, l := l, c := k, cx := c } { lo := some true } := ⟨fun _ h => (by cases h), fun _ h => (by cases h), fun b h => (by cases h; simp [h1]), fun _ h => (by cases h), rfl, rfl, (show (0 : Nat) < 256 by decide), (show (0 : Int) ≤ 0 by decide), (show (0 : Int) ≤ 1000000 by decide)⟩
    letI O := opqPd { a := a, l := l, c := k, cx := c }
    have hr := top_row E0 hO (I := LaidI K ρ0 n0) (LaidI.ki E0.ro) T.body (fun _ h => by cases h) T.lo
    rw [show (cxOk c && t.ok 1) = false by simp [cxOk]; intro h; omega]
    exact top_use hr (hL O) hG h0 (hbd O) (VRs.cons rfl (VRs.cons rfl VRs.nil))
  · by_cases h2 : 4 < c
    · have hO : POk { a := a, l := l, c := k, cx := c } { lo := some false, hi := some true } := ⟨fun _ h => (by cases h), fun _ h => (by cases h), fun b h => (by cases h; simp [h1]), fun b h => (by cases h; simp [h2]), rfl, rfl, (show (0 : Nat) < 256 by decide), (show (0 : Int) ≤ 0 by decide), (show (0 : Int) ≤ 1000000 by decide)⟩
      letI O := opqPd { a := a, l := l, c := k, cx := c }
      have hr := top_row E0 hO (I := LaidI K ρ0 n0) (LaidI.ki E0.ro) T.body (fun _ h => by cases h) T.hi
      rw [show (cxOk c && t.ok 1) = false by simp [cxOk]; intro h h'; omega]
      exact top_use hr (hL O) hG h0 (hbd O) (VRs.cons rfl (VRs.cons rfl VRs.nil))
    · have hO : POk { a := a, l := l, c := k, cx := c } {} := ⟨fun _ h => (by cases h), fun _ h => (by cases h), fun b h => (by cases h), fun b h => (by cases h), rfl, rfl, (show (0 : Nat) < 256 by decide), (show (0 : Int) ≤ 0 by decide), (show (0 : Int) ≤ 1000000 by decide)⟩
      letI O := opqPd { a := a, l := l, c := k, cx := c }
      by_cases h3 : c = 4
      · subst h3
        have hr := top_row E0 hO (I := LaidI K ρ0 n0) (LaidI.ki E0.ro) T.body (fun _ h => by cases h) T.four
        rw [show (cxOk 4 && t.ok 1) = false from rfl]
        exact top_use hr (hL O) hG h0 (hbd O) (VRs.cons rfl (VRs.cons (by simp [VR]) VRs.nil))
      · obtain ⟨n, rfl⟩ : ∃ n : Nat, c = n := ⟨c.toNat, by omega⟩
        have hn : n < 4 := by omega
        have hin : KRowOk (PI K ρ0 n0 t.flat (.slice a l k)) P f ⟨0, mk n (.int .i64 1) (.opq 100), [], resV (t.ok 1), none⟩ := by
          refine ⟨(E n hn).body, fun ρ w args' hI _ _ _ _ hargs => ?_⟩
          obtain rfl := (E n hn).km1 O ρ 1 100 args' hargs
          refine (body_says (E n hn) (V n hn) h0 hG t ht w 1 (.slice a l k) (fun O' => @laid_any K (E n hn).plain O O' ρ0 ρ0 n0 w (@laid_self K O ρ0 ρ n0 w hI.1)) hI.2 (by omega) (by omega)).mono fun e w' he => ?_
          obtain ⟨rfl, hB⟩ := he
          exact ⟨_, rfl, hB, (resV_VR _ _).2 rfl⟩
        have hr := top_row E0 hO (I := PI K ρ0 n0 t.flat (.slice a l k)) (PI.ki E0.ro) T.body (fun r h => by
          simp only [List.mem_cons, List.not_mem_nil, or_false] at h
          subst h
          exact hin) (T.inn n hn (t.ok 1))
        rw [show (cxOk n && t.ok 1) = t.ok 1 by
          rw [show cxOk n = true by simp [cxOk]; omega]; rfl]
        exact top_use hr ⟨hL O, hN⟩ hG h0 (hbd O) (VRs.cons rfl (VRs.cons (by simp [VR]) VRs.nil))
theorem laid_up [Opq] {ρ0 ρ : Rho} {n0 : Nat} {w : World} (h : LaidI K ρ0 n0 ρ w) : LaidI K ρ0 w.heap.size ρ0 w :=
  ⟨Rho.le_refl _, Nat.le_refl _, h.2.2.1, fun b q base e hq => ⟨Nat.lt_of_lt_of_le (h.2.2.2 b q base e hq).1 h.2.1, (h.2.2.2 b q base e hq).2⟩⟩
/-- **The row of the outer function, as the law calls it.** -/
theorem law_row (E : ∀ c : Nat, c < 4 → PdPr P e0 X K G f (mk c) (mv c)) (V : ∀ c : Nat, c < 4 → PdEvs P e0 X K G f (mk c)) (T : PdTops P e0 X K G g f mk) {ρ0 : Rho} {n0 : Nat} (h0 : ∀ b, G ≤ b → ρ0 b = none) (hG : Glob P.globals.size ρ0)
    {t : Nst} (ht : t.good) (hdp : t.deep ≤ 1000) {m cnt : Nat} (hfl : lev m cnt = t.flat) {pv : PV} (hp : pv.p = cond (cxOk pv.cx && t.ok 1) 0 4) (hs : pv.s = cond (cxOk pv.cx && t.ok 1) 0 2) :
    letI := opqPd pv; KRowOk (LaidI K ρ0 n0) P g ⟨0, [topV G cnt, .opq 204], nestBs G m cnt, .tup [.opq 205, .opq 206], none⟩ := by
  letI O := opqPd pv
  refine ⟨T.body, fun ρ w args' hI _ _ hb hbs hargs => ?_⟩
  obtain ⟨v, vs, h1, h2, rfl⟩ := hargs.cons_inv
  obtain ⟨u, us, h3, h4, rfl⟩ := h2.cons_inv
  rw [VRs.nil_iff] at h4
  subst h4
  simp only [VR] at h3
  have h3' : u = .int .i64 pv.cx := h3
  subst h3'
  have hN := nest_of_bs hb hbs cnt (Nat.le_refl _) v h1
  rw [hfl] at hN
  refine (top_says E V T h0 hG t ht hdp w pv.cx v (fun O' => @laid_any K (E 0 (by decide)).plain O O' ρ0 ρ0 w.heap.size w (@laid_up K O ρ0 ρ n0 w hI)) hN).mono fun e w' he => ?_
  obtain ⟨rfl, hB⟩ := he
  refine ⟨_, rfl, hB, ?_⟩
  show VR ρ (.tup [.opq 205, .opq 206]) _
  simp only [VR]
  refine ⟨[.int .i64 pv.p, .int .i64 pv.s], VRs.cons rfl (VRs.cons rfl VRs.nil), ?_⟩
  rw [hp, hs]
  cases (cxOk pv.cx && t.ok 1) <;> rfl
/-- **A law with arguments, out of a row of calls at them, where the variables have names.** -/
theorem calls_args_glob [Opq] {P : Program} {G : Nat} {bs : List (Nat × Nat × List SV)} {laid : List (String × DataW Unit)} {f : FuncId} {as : List SV} {vs : List Value} (hG : P.globals.size = G) (has : ∀ ρ : Rho, VRs ρ as vs)
    (hrow : ∀ (ρ0 : Rho) (n0 : Nat), (∀ b, G ≤ b → ρ0 b = none) → Glob P.globals.size ρ0 → KRowOk (LaidI (rowHp .e bs) ρ0 n0) P f ⟨G, as, [], .bool true, none⟩)
    (hbs : ∀ x ∈ bs, x.1 < G ∧ ∃ n d t m, (n, d) ∈ laid ∧ P.globalNamed n = some x.1 ∧ (P.globals[x.1]?).map (·.type) = some t ∧ plS P m t d = some x.2.2)
    (hz : ((List.range P.globals.size).all fun g => (((begin P (fun _ _ => 0) default).world.heap[g]?).bind Obj.row?).isSome) = true)
    {W : World} (hsh : W.ShapedOpen P) (hL : laidMet P laid W) : Calls P f vs.toArray W (fun e w' => e = .returned (.bool true) ∧ RowKit.Below W.heap.size W w') := by
  let ρ0 : Rho := fun g => if g < G then some (g, 0, 0) else none
  have hat : ∀ b x, ρ0 b = some x → b < G ∧ x = (b, 0, 0) := fun b x h => by
    simp only [ρ0] at h
    split at h
    · rename_i hb; cases h; exact ⟨hb, rfl⟩
    · cases h
  have hin : ∀ b, b < G → ρ0 b = some (b, 0, 0) := fun b h => by simp only [ρ0]; rw [if_pos h]
  have hno : ∀ b, G ≤ b → ρ0 b = none := fun b hb => by simp only [ρ0]; rw [if_neg (by omega)]
  have hl : ∀ b q base e, ρ0 b = some (q, base, e) → q < W.heap.size ∧ BR ρ0 base e ((rowHp .e bs).get b) W.heap[q]? := fun b q base e h => by
    obtain ⟨hb, hx⟩ := hat b _ h
    cases hx
    refine ⟨shape_size hsh hz (by rw [hG]; exact hb), ?_⟩
    rcases rowHp_get .e bs b with h | h | ⟨x, hx, rfl, h⟩
    · rw [h, Hp.get_e]; simp [BR]
    · rw [h]; simp [BR]
    · rw [h]
      obtain ⟨_, n, d, t, m, h1, h2, h3, h4⟩ := hbs x hx
      exact laid_block hL h1 h2 h3 h4 ρ0 _
  have hdom : ∀ b, isNone ((rowHp .e bs).get b) = false → ∃ x, ρ0 b = some x := fun b hn => by
    rcases rowHp_get .e bs b with h | h | ⟨x, hx, rfl, _⟩
    · rw [h, Hp.get_e] at hn; cases hn
    · rw [h] at hn; cases hn
    · exact ⟨_, hin x.1 (hbs x hx).1⟩
  refine ((hrow ρ0 W.heap.size hno (fun g hg => ⟨0, hin g (by omega)⟩)).calls ρ0 W vs ⟨Rho.le_refl _, Nat.le_refl _, hdom, hl⟩ (fun g hg => ⟨0, hin g (by omega)⟩) (fun _ => hno) (fun b q base e hq => (hl b q base e hq).1) (fun x hx => by cases hx) (has ρ0)).mono fun e w' he => ?_
  obtain ⟨v, rfl, hB, h3⟩ := he
  unfold RowEnd at h3
  have hv : VR ρ0 (.bool true) v := h3
  simp only [VR] at hv
  subst hv
  exact ⟨rfl, hB⟩
end Go.Pd
