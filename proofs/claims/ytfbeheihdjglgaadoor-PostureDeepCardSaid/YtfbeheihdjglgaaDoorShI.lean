/- Part of a proof about calls of this program: the evaluator of the first text is sound; this text is one step of it. No condition. -/
import Derived.Test.YtfbeheihdjglgaaDoorSh
import Derived.Below
import Derived.Laws.Sem
import Derived.Laws.MakeOwn
import Derived.Laws.StructEq
import Derived.Laws.IdiomStrings
import Derived.Laws.Cover4
set_option linter.unusedSectionVars false
set_option linter.unusedSimpArgs false
set_option linter.unusedVariables false
namespace Go.Sh

/-! ## tries -/
theorem Nat.pred_div_ne {j k : Nat} (h : j ≠ k) (h1 : Nat.beq j 0 = false) (h2 : Nat.beq k 0 = false) (h3 : Nat.beq (Nat.mod j 2) 1 = false) (h4 : Nat.beq (Nat.mod k 2) 1 = false) :
    Nat.pred (Nat.div j 2) ≠ Nat.pred (Nat.div k 2) := by
  have e1 : j ≠ 0 := by intro e; subst e; simp at h1
  have e2 : k ≠ 0 := by intro e; subst e; simp at h2
  have e3 : j % 2 ≠ 1 := by intro e; have : Nat.beq (j % 2) 1 = true := by rw [e]; rfl
                            exact absurd (this.symm.trans h3) (by simp)
  have e4 : k % 2 ≠ 1 := by intro e; have : Nat.beq (k % 2) 1 = true := by rw [e]; rfl
                            exact absurd (this.symm.trans h4) (by simp)
  show Nat.pred (j / 2) ≠ Nat.pred (k / 2)
  simp only [Nat.pred_eq_sub_one]; omega

theorem Nat.div_ne {j k : Nat} (h : j ≠ k) (h3 : Nat.beq (Nat.mod j 2) 1 = true) (h4 : Nat.beq (Nat.mod k 2) 1 = true) : Nat.div j 2 ≠ Nat.div k 2 := by
  have e3 : j % 2 = 1 := Nat.eq_of_beq_eq_true h3
  have e4 : k % 2 = 1 := Nat.eq_of_beq_eq_true h4
  show j / 2 ≠ k / 2
  omega

theorem En.get_e (k : Nat) : En.get .e k = .bad := rfl
theorem En.get_n (l : En) (v : SV) (r : En) (k : Nat) : En.get (.n l v r) k =
    cond (Nat.beq k 0) v (cond (Nat.beq (Nat.mod k 2) 1) (l.get (Nat.div k 2)) (r.get (Nat.pred (Nat.div k 2)))) := by
  show Bool.rec (motive := fun _ => SV) _ v (Nat.beq k 0) = _
  cases Nat.beq k 0 <;> first | rfl | (show Bool.rec (motive := fun _ => SV) _ _ (Nat.beq (Nat.mod k 2) 1) = _; cases Nat.beq (Nat.mod k 2) 1 <;> rfl)
theorem En.mk_succ (f k : Nat) (x : SV) : En.mk (f + 1) k x =
    cond (Nat.beq k 0) (.n .e x .e) (cond (Nat.beq (Nat.mod k 2) 1) (.n (En.mk f (Nat.div k 2) x) .bad .e) (.n .e .bad (En.mk f (Nat.pred (Nat.div k 2)) x))) := by
  show Bool.rec (motive := fun _ => En) _ _ (Nat.beq k 0) = _
  cases Nat.beq k 0 <;> first | rfl | (show Bool.rec (motive := fun _ => En) _ _ (Nat.beq (Nat.mod k 2) 1) = _; cases Nat.beq (Nat.mod k 2) 1 <;> rfl)
theorem En.set_e (k : Nat) (x : SV) : En.set .e k x = En.mk 40 k x := rfl
theorem En.set_n (l : En) (v : SV) (r : En) (k : Nat) (x : SV) : En.set (.n l v r) k x =
    cond (Nat.beq k 0) (.n l x r) (cond (Nat.beq (Nat.mod k 2) 1) (.n (l.set (Nat.div k 2) x) v r) (.n l v (r.set (Nat.pred (Nat.div k 2)) x))) := by
  show Bool.rec (motive := fun _ => En) _ _ (Nat.beq k 0) = _
  cases Nat.beq k 0 <;> first | rfl | (show Bool.rec (motive := fun _ => En) _ _ (Nat.beq (Nat.mod k 2) 1) = _; cases Nat.beq (Nat.mod k 2) 1 <;> rfl)

theorem En.get_mk_ne : ∀ (f k : Nat) (x : SV) (j : Nat), j ≠ k → (En.mk f k x).get j = .bad := by
  intro f
  induction f with
  | zero => intro k x j _; rfl
  | succ f ih =>
    intro k x j h
    rw [En.mk_succ]
    cases hk : Nat.beq k 0 <;> cases hk2 : Nat.beq (Nat.mod k 2) 1 <;> simp only [cond_true, cond_false, En.get_n] <;>
      cases hj : Nat.beq j 0 <;> cases hj2 : Nat.beq (Nat.mod j 2) 1 <;> simp only [cond_true, cond_false, En.get_e]
    all_goals first
      | rfl
      | exact ih _ _ _ (Nat.pred_div_ne h hj hk hj2 hk2)
      | exact ih _ _ _ (Nat.div_ne h hj2 hk2)
      | exact absurd ((Nat.eq_of_beq_eq_true hj).trans (Nat.eq_of_beq_eq_true hk).symm) h
theorem En.get_mk_eq : ∀ (f k : Nat) (x : SV), (En.mk f k x).get k = x ∨ (En.mk f k x).get k = .bad := by
  intro f
  induction f with
  | zero => intro k x; exact .inr rfl
  | succ f ih =>
    intro k x
    rw [En.mk_succ]
    cases hk : Nat.beq k 0 <;> cases hk2 : Nat.beq (Nat.mod k 2) 1 <;> simp only [cond_true, cond_false, En.get_n, hk, hk2]
    · exact ih _ _
    · exact ih _ _
    · exact .inl trivial
    · exact .inl trivial
theorem En.get_set_ne : ∀ (t : En) (k : Nat) (x : SV) (j : Nat), j ≠ k → (t.set k x).get j = t.get j := by
  intro t
  induction t with
  | e => intro k x j h; rw [En.set_e, En.get_mk_ne _ _ _ _ h]; rfl
  | n l v r ihl ihr =>
    intro k x j h
    rw [En.set_n]
    cases hk : Nat.beq k 0 <;> cases hk2 : Nat.beq (Nat.mod k 2) 1 <;> simp only [cond_true, cond_false, En.get_n] <;>
      cases hj : Nat.beq j 0 <;> cases hj2 : Nat.beq (Nat.mod j 2) 1 <;> simp only [cond_true, cond_false]
    all_goals first
      | rfl
      | exact ihr _ _ _ (Nat.pred_div_ne h hj hk hj2 hk2)
      | exact ihl _ _ _ (Nat.div_ne h hj2 hk2)
      | exact absurd ((Nat.eq_of_beq_eq_true hj).trans (Nat.eq_of_beq_eq_true hk).symm) h
theorem En.get_set_eq : ∀ (t : En) (k : Nat) (x : SV), (t.set k x).get k = x ∨ (t.set k x).get k = .bad := by
  intro t
  induction t with
  | e => intro k x; rw [En.set_e]; exact En.get_mk_eq _ _ _
  | n l v r ihl ihr =>
    intro k x
    rw [En.set_n]
    cases hk : Nat.beq k 0 <;> cases hk2 : Nat.beq (Nat.mod k 2) 1 <;> simp only [cond_true, cond_false, En.get_n, hk, hk2]
    · exact ihr _ _
    · exact ihl _ _
    · exact .inl trivial
    · exact .inl trivial

theorem Hp.get_e (k : Nat) : Hp.get .e k = .none := rfl
theorem Hp.get_n (l : Hp) (v : SBlk) (r : Hp) (k : Nat) : Hp.get (.n l v r) k =
    cond (Nat.beq k 0) v (cond (Nat.beq (Nat.mod k 2) 1) (l.get (Nat.div k 2)) (r.get (Nat.pred (Nat.div k 2)))) := by
  show Bool.rec (motive := fun _ => SBlk) _ v (Nat.beq k 0) = _
  cases Nat.beq k 0 <;> first | rfl | (show Bool.rec (motive := fun _ => SBlk) _ _ (Nat.beq (Nat.mod k 2) 1) = _; cases Nat.beq (Nat.mod k 2) 1 <;> rfl)
theorem Hp.mk_succ (f k : Nat) (x : SBlk) : Hp.mk (f + 1) k x =
    cond (Nat.beq k 0) (.n .e x .e) (cond (Nat.beq (Nat.mod k 2) 1) (.n (Hp.mk f (Nat.div k 2) x) .none .e) (.n .e .none (Hp.mk f (Nat.pred (Nat.div k 2)) x))) := by
  show Bool.rec (motive := fun _ => Hp) _ _ (Nat.beq k 0) = _
  cases Nat.beq k 0 <;> first | rfl | (show Bool.rec (motive := fun _ => Hp) _ _ (Nat.beq (Nat.mod k 2) 1) = _; cases Nat.beq (Nat.mod k 2) 1 <;> rfl)
theorem Hp.set_e (k : Nat) (x : SBlk) : Hp.set .e k x = Hp.mk 40 k x := rfl
theorem Hp.set_n (l : Hp) (v : SBlk) (r : Hp) (k : Nat) (x : SBlk) : Hp.set (.n l v r) k x =
    cond (Nat.beq k 0) (.n l x r) (cond (Nat.beq (Nat.mod k 2) 1) (.n (l.set (Nat.div k 2) x) v r) (.n l v (r.set (Nat.pred (Nat.div k 2)) x))) := by
  show Bool.rec (motive := fun _ => Hp) _ _ (Nat.beq k 0) = _
  cases Nat.beq k 0 <;> first | rfl | (show Bool.rec (motive := fun _ => Hp) _ _ (Nat.beq (Nat.mod k 2) 1) = _; cases Nat.beq (Nat.mod k 2) 1 <;> rfl)
theorem Hp.get_mk_ne : ∀ (f k : Nat) (x : SBlk) (j : Nat), j ≠ k → (Hp.mk f k x).get j = .none := by
  intro f
  induction f with
  | zero => intro k x j _; rfl
  | succ f ih =>
    intro k x j h
    rw [Hp.mk_succ]
    cases hk : Nat.beq k 0 <;> cases hk2 : Nat.beq (Nat.mod k 2) 1 <;> simp only [cond_true, cond_false, Hp.get_n] <;>
      cases hj : Nat.beq j 0 <;> cases hj2 : Nat.beq (Nat.mod j 2) 1 <;> simp only [cond_true, cond_false, Hp.get_e]
    all_goals first
      | rfl
      | exact ih _ _ _ (Nat.pred_div_ne h hj hk hj2 hk2)
      | exact ih _ _ _ (Nat.div_ne h hj2 hk2)
      | exact absurd ((Nat.eq_of_beq_eq_true hj).trans (Nat.eq_of_beq_eq_true hk).symm) h
theorem Hp.get_mk_eq : ∀ (f k : Nat) (x : SBlk), (Hp.mk f k x).get k = x ∨ (Hp.mk f k x).get k = .none := by
  intro f
  induction f with
  | zero => intro k x; exact .inr rfl
  | succ f ih =>
    intro k x
    rw [Hp.mk_succ]
    cases hk : Nat.beq k 0 <;> cases hk2 : Nat.beq (Nat.mod k 2) 1 <;> simp only [cond_true, cond_false, Hp.get_n, hk, hk2]
    · exact ih _ _
    · exact ih _ _
    · exact .inl trivial
    · exact .inl trivial
theorem Hp.get_set_ne : ∀ (t : Hp) (k : Nat) (x : SBlk) (j : Nat), j ≠ k → (t.set k x).get j = t.get j := by
  intro t
  induction t with
  | e => intro k x j h; rw [Hp.set_e, Hp.get_mk_ne _ _ _ _ h]; rfl
  | n l v r ihl ihr =>
    intro k x j h
    rw [Hp.set_n]
    cases hk : Nat.beq k 0 <;> cases hk2 : Nat.beq (Nat.mod k 2) 1 <;> simp only [cond_true, cond_false, Hp.get_n] <;>
      cases hj : Nat.beq j 0 <;> cases hj2 : Nat.beq (Nat.mod j 2) 1 <;> simp only [cond_true, cond_false]
    all_goals first
      | rfl
      | exact ihr _ _ _ (Nat.pred_div_ne h hj hk hj2 hk2)
      | exact ihl _ _ _ (Nat.div_ne h hj2 hk2)
      | exact absurd ((Nat.eq_of_beq_eq_true hj).trans (Nat.eq_of_beq_eq_true hk).symm) h
theorem Hp.get_set_eq : ∀ (t : Hp) (k : Nat) (x : SBlk), (t.set k x).get k = x ∨ (t.set k x).get k = .none := by
  intro t
  induction t with
  | e => intro k x; rw [Hp.set_e]; exact Hp.get_mk_eq _ _ _
  | n l v r ihl ihr =>
    intro k x
    rw [Hp.set_n]
    cases hk : Nat.beq k 0 <;> cases hk2 : Nat.beq (Nat.mod k 2) 1 <;> simp only [cond_true, cond_false, Hp.get_n, hk, hk2]
    · exact ihr _ _
    · exact ihl _ _
    · exact .inl trivial
    · exact .inl trivial

/-! ## numbers -/
theorem ltI_eq (a b : Int) : ltI a b = decide (a < b) := by
  cases a with
  | ofNat a => cases b with
    | ofNat b => simp only [ltI]; rw [Bool.eq_iff_iff]; simp [Nat.ble_eq]; omega
    | negSucc b => simp only [ltI]; symm; rw [decide_eq_false_iff_not]; simp only [Int.ofNat_eq_natCast]; omega
  | negSucc a => cases b with
    | ofNat b => simp only [ltI]; symm; rw [decide_eq_true_iff]; simp only [Int.ofNat_eq_natCast]; omega
    | negSucc b => simp only [ltI]; rw [Bool.eq_iff_iff]; simp [Nat.ble_eq]; omega
theorem eqI_eq (a b : Int) : eqI a b = (a == b) := by
  cases a with
  | ofNat a => cases b with
    | ofNat b => simp only [eqI]; rw [Bool.eq_iff_iff]; simp; omega
    | negSucc b => simp only [eqI]; rw [Bool.eq_iff_iff]; simp
  | negSucc a => cases b with
    | ofNat b => simp only [eqI]; rw [Bool.eq_iff_iff]; simp
    | negSucc b => simp only [eqI]; rw [Bool.eq_iff_iff]; simp
theorem eqK_eq (a b : IntKind) : eqK a b = true ↔ a = b := by
  cases a <;> cases b <;> simp [eqK]
theorem eqB_eq (a b : Bool) : eqB a b = (a == b) := by cases a <;> cases b <;> rfl
theorem wrap_neg8 (n : Nat) (hn : n ≤ 127) : IntKind.wrap .i8 (.negSucc n) = .negSucc n := by
  have e1 : (2 : Int) ^ IntKind.i8.bits = 256 := rfl
  have e2 : (2 : Int) ^ (IntKind.i8.bits - 1) = 128 := rfl
  have e3 : IntKind.i8.signed = true := rfl
  unfold IntKind.wrap
  rw [e1, e2, e3, Int.negSucc_eq]
  simp only [Bool.true_and, decide_eq_true_eq, ge_iff_le]
  split <;> omega
theorem wrap_neg16 (n : Nat) (hn : n ≤ 32767) : IntKind.wrap .i16 (.negSucc n) = .negSucc n := by
  have e1 : (2 : Int) ^ IntKind.i16.bits = 65536 := rfl
  have e2 : (2 : Int) ^ (IntKind.i16.bits - 1) = 32768 := rfl
  have e3 : IntKind.i16.signed = true := rfl
  unfold IntKind.wrap
  rw [e1, e2, e3, Int.negSucc_eq]
  simp only [Bool.true_and, decide_eq_true_eq, ge_iff_le]
  split <;> omega
theorem wrap_neg32 (n : Nat) (hn : n ≤ 2147483647) : IntKind.wrap .i32 (.negSucc n) = .negSucc n := by
  have e1 : (2 : Int) ^ IntKind.i32.bits = 4294967296 := rfl
  have e2 : (2 : Int) ^ (IntKind.i32.bits - 1) = 2147483648 := rfl
  have e3 : IntKind.i32.signed = true := rfl
  unfold IntKind.wrap
  rw [e1, e2, e3, Int.negSucc_eq]
  simp only [Bool.true_and, decide_eq_true_eq, ge_iff_le]
  split <;> omega
theorem wrap_neg64 (n : Nat) (hn : n ≤ 9223372036854775807) : IntKind.wrap .i64 (.negSucc n) = .negSucc n := by
  have e1 : (2 : Int) ^ IntKind.i64.bits = 18446744073709551616 := rfl
  have e2 : (2 : Int) ^ (IntKind.i64.bits - 1) = 9223372036854775808 := rfl
  have e3 : IntKind.i64.signed = true := rfl
  unfold IntKind.wrap
  rw [e1, e2, e3, Int.negSucc_eq]
  simp only [Bool.true_and, decide_eq_true_eq, ge_iff_le]
  split <;> omega
theorem wrap_pos8 (n : Nat) (hn : n ≤ 127) : IntKind.wrap .i8 (.ofNat n) = .ofNat n := by
  have e1 : (2 : Int) ^ IntKind.i8.bits = 256 := rfl
  have e2 : (2 : Int) ^ (IntKind.i8.bits - 1) = 128 := rfl
  have e3 : IntKind.i8.signed = true := rfl
  unfold IntKind.wrap
  rw [e1, e2, e3, Int.ofNat_eq_natCast]
  simp only [Bool.true_and, decide_eq_true_eq, ge_iff_le]
  split <;> omega
theorem wrap_posu8 (n : Nat) (hn : n ≤ 255) : IntKind.wrap .u8 (.ofNat n) = .ofNat n := by
  have e1 : (2 : Int) ^ IntKind.u8.bits = 256 := rfl
  have e3 : IntKind.u8.signed = false := rfl
  unfold IntKind.wrap
  rw [e1, e3, Int.ofNat_eq_natCast]
  simp only [Bool.false_and, Bool.false_eq_true, if_false]
  omega
theorem wrap_pos16 (n : Nat) (hn : n ≤ 32767) : IntKind.wrap .i16 (.ofNat n) = .ofNat n := by
  have e1 : (2 : Int) ^ IntKind.i16.bits = 65536 := rfl
  have e2 : (2 : Int) ^ (IntKind.i16.bits - 1) = 32768 := rfl
  have e3 : IntKind.i16.signed = true := rfl
  unfold IntKind.wrap
  rw [e1, e2, e3, Int.ofNat_eq_natCast]
  simp only [Bool.true_and, decide_eq_true_eq, ge_iff_le]
  split <;> omega
theorem wrap_posu16 (n : Nat) (hn : n ≤ 65535) : IntKind.wrap .u16 (.ofNat n) = .ofNat n := by
  have e1 : (2 : Int) ^ IntKind.u16.bits = 65536 := rfl
  have e3 : IntKind.u16.signed = false := rfl
  unfold IntKind.wrap
  rw [e1, e3, Int.ofNat_eq_natCast]
  simp only [Bool.false_and, Bool.false_eq_true, if_false]
  omega
theorem wrap_pos32 (n : Nat) (hn : n ≤ 2147483647) : IntKind.wrap .i32 (.ofNat n) = .ofNat n := by
  have e1 : (2 : Int) ^ IntKind.i32.bits = 4294967296 := rfl
  have e2 : (2 : Int) ^ (IntKind.i32.bits - 1) = 2147483648 := rfl
  have e3 : IntKind.i32.signed = true := rfl
  unfold IntKind.wrap
  rw [e1, e2, e3, Int.ofNat_eq_natCast]
  simp only [Bool.true_and, decide_eq_true_eq, ge_iff_le]
  split <;> omega
theorem wrap_posu32 (n : Nat) (hn : n ≤ 4294967295) : IntKind.wrap .u32 (.ofNat n) = .ofNat n := by
  have e1 : (2 : Int) ^ IntKind.u32.bits = 4294967296 := rfl
  have e3 : IntKind.u32.signed = false := rfl
  unfold IntKind.wrap
  rw [e1, e3, Int.ofNat_eq_natCast]
  simp only [Bool.false_and, Bool.false_eq_true, if_false]
  omega
theorem wrap_pos64 (n : Nat) (hn : n ≤ 9223372036854775807) : IntKind.wrap .i64 (.ofNat n) = .ofNat n := by
  have e1 : (2 : Int) ^ IntKind.i64.bits = 18446744073709551616 := rfl
  have e2 : (2 : Int) ^ (IntKind.i64.bits - 1) = 9223372036854775808 := rfl
  have e3 : IntKind.i64.signed = true := rfl
  unfold IntKind.wrap
  rw [e1, e2, e3, Int.ofNat_eq_natCast]
  simp only [Bool.true_and, decide_eq_true_eq, ge_iff_le]
  split <;> omega
theorem wrap_posu64 (n : Nat) (hn : n ≤ 18446744073709551615) : IntKind.wrap .u64 (.ofNat n) = .ofNat n := by
  have e1 : (2 : Int) ^ IntKind.u64.bits = 18446744073709551616 := rfl
  have e3 : IntKind.u64.signed = false := rfl
  unfold IntKind.wrap
  rw [e1, e3, Int.ofNat_eq_natCast]
  simp only [Bool.false_and, Bool.false_eq_true, if_false]
  omega
theorem wrapF_eq (k : IntKind) (n : Int) : wrapF k n = k.wrap n := by
  cases n with
  | ofNat n =>
    simp only [wrapF]
    cases h : Nat.ble n (maxOf k) with
    | false => rfl
    | true =>
      have hn := Nat.le_of_ble_eq_true h
      rw [cond_true]
      cases k with
      | i8 => exact (wrap_pos8 n (by simpa only [maxOf] using hn)).symm
      | i16 => exact (wrap_pos16 n (by simpa only [maxOf] using hn)).symm
      | i32 => exact (wrap_pos32 n (by simpa only [maxOf] using hn)).symm
      | i64 => exact (wrap_pos64 n (by simpa only [maxOf] using hn)).symm
      | u8 => exact (wrap_posu8 n (by simpa only [maxOf] using hn)).symm
      | u16 => exact (wrap_posu16 n (by simpa only [maxOf] using hn)).symm
      | u32 => exact (wrap_posu32 n (by simpa only [maxOf] using hn)).symm
      | u64 => exact (wrap_posu64 n (by simpa only [maxOf] using hn)).symm
  | negSucc n =>
    simp only [wrapF]
    cases h : Nat.ble n (maxOf k) with
    | false => rfl
    | true =>
      have hn := Nat.le_of_ble_eq_true h
      rw [cond_true]
      cases k with
      | i8 => rw [show IntKind.i8.signed = true from rfl, cond_true]; exact (wrap_neg8 n (by simpa only [maxOf] using hn)).symm
      | i16 => rw [show IntKind.i16.signed = true from rfl, cond_true]; exact (wrap_neg16 n (by simpa only [maxOf] using hn)).symm
      | i32 => rw [show IntKind.i32.signed = true from rfl, cond_true]; exact (wrap_neg32 n (by simpa only [maxOf] using hn)).symm
      | i64 => rw [show IntKind.i64.signed = true from rfl, cond_true]; exact (wrap_neg64 n (by simpa only [maxOf] using hn)).symm
      | u8 => rw [show IntKind.u8.signed = false from rfl, cond_false]
      | u16 => rw [show IntKind.u16.signed = false from rfl, cond_false]
      | u32 => rw [show IntKind.u32.signed = false from rfl, cond_false]
      | u64 => rw [show IntKind.u64.signed = false from rfl, cond_false]

/-! ## strings -/
theorem natOf_nil : natOf [] = 0 := rfl
theorem natOf_cons (c : UInt8) (cs : List UInt8) : natOf (c :: cs) = c.toNat + 256 * natOf cs := rfl
theorem natOf_append (a b : List UInt8) : natOf (a ++ b) = natOf a + natOf b * 2 ^ (8 * a.length) := by
  induction a with
  | nil => simp [natOf_nil]
  | cons c cs ih =>
    simp only [List.cons_append, natOf_cons, ih, List.length_cons]
    rw [show 8 * (cs.length + 1) = 8 * cs.length + 8 from by omega, Nat.pow_add]
    rw [Nat.mul_add, Nat.add_assoc]
    congr 2
    rw [Nat.mul_left_comm, show (2 : Nat) ^ 8 = 256 from rfl, Nat.mul_comm 256 (2 ^ (8 * cs.length))]
theorem natOf_lt (a : List UInt8) : natOf a < 2 ^ (8 * a.length) := by
  induction a with
  | nil => simp [natOf_nil]
  | cons c cs ih =>
    simp only [natOf_cons, List.length_cons]
    rw [show 8 * (cs.length + 1) = 8 * cs.length + 8 from by omega, Nat.pow_add]
    have := c.toNat_lt
    omega
theorem natOf_drop (a : List UInt8) (k : Nat) (h : k ≤ a.length) : natOf (a.drop k) = natOf a / 2 ^ (8 * k) := by
  have e : natOf a = natOf (a.take k) + natOf (a.drop k) * 2 ^ (8 * k) := by
    have h1 : (a.take k).length = k := by simp; omega
    have := natOf_append (a.take k) (a.drop k)
    rw [List.take_append_drop, h1] at this
    exact this
  have hl := natOf_lt (a.take k)
  have h1 : (a.take k).length = k := by simp; omega
  rw [h1] at hl
  rw [e, Nat.add_mul_div_right _ _ (Nat.two_pow_pos _), Nat.div_eq_of_lt hl, Nat.zero_add]
theorem natOf_take (a : List UInt8) (k : Nat) (h : k ≤ a.length) : natOf (a.take k) = natOf a % 2 ^ (8 * k) := by
  have e : natOf a = natOf (a.take k) + natOf (a.drop k) * 2 ^ (8 * k) := by
    have h1 : (a.take k).length = k := by simp; omega
    have := natOf_append (a.take k) (a.drop k)
    rw [List.take_append_drop, h1] at this
    exact this
  have hl := natOf_lt (a.take k)
  have h1 : (a.take k).length = k := by simp; omega
  rw [h1] at hl
  calc natOf (a.take k) = (natOf (a.take k) + natOf (a.drop k) * 2 ^ (8 * k)) % 2 ^ (8 * k) := by rw [Nat.add_mul_mod_self_right, Nat.mod_eq_of_lt hl]
    _ = natOf a % 2 ^ (8 * k) := by rw [← e]
theorem natOf_inj : ∀ (a b : List UInt8), a.length = b.length → natOf a = natOf b → a = b := by
  intro a
  induction a with
  | nil => intro b h _; cases b with | nil => rfl | cons _ _ => simp at h
  | cons c cs ih =>
    intro b h e
    cases b with
    | nil => simp at h
    | cons d ds =>
      simp only [natOf_cons] at e
      have h1 := c.toNat_lt
      have h2 := d.toNat_lt
      have hc : c.toNat = d.toNat := by omega
      have hs : natOf cs = natOf ds := by omega
      rw [ih ds (by simpa using h) hs, UInt8.toNat_inj.1 hc]

end Go.Sh
namespace Go.Sh
/-- the values that are not known -/
class Opq where
  val : Nat → Value
  str : ∀ i, i < 100 → ∃ s, val i = .string s
  slc : ∀ i, 100 ≤ i → i < 200 → ∃ a l c, val i = .slice a l c
  int : ∀ i, 200 ≤ i → ∃ k n, val i = .int k n
  lenS : ∀ i s, i < 100 → val i = .string s → val (i + 1000) = .int .i64 s.size
  lenL : ∀ i a l c, 100 ≤ i → i < 200 → val i = .slice a l c → val (i + 1000) = .int .i64 l
variable [Opq]
theorem Opq.shape (i : Nat) : (∃ s, Opq.val i = .string s) ∨ (∃ a l c, Opq.val i = .slice a l c) ∨ ∃ k n, Opq.val i = .int k n := by
  rcases Nat.lt_or_ge i 100 with h | h
  · exact .inl (Opq.str i h)
  · rcases Nat.lt_or_ge i 200 with h' | h'
    · exact .inr (.inl (Opq.slc i h h'))
    · exact .inr (.inr (Opq.int i h'))
open Go.RowKit (Below)

/-! ## the relation between shadow values and values -/
abbrev Rho := Nat → Option (Nat × Nat × Nat)

mutual
def VR (ρ : Rho) : SV → Value → Prop
  | .bad, _ => False
  | .junk, _ => True
  | .bool b, v => v = .bool b
  | .int k n, v => v = .int k n
  | .flt k n, v => v = .float k n
  | .str len n, v => ∃ s : ByteArray, v = .string s ∧ s.size = len ∧ natOf s.data.toList = n
  | .ptr b off, v => ∃ r base e, ρ b = some (r, base, e) ∧ v = .pointer (some ⟨r, base + off, none⟩)
  | .nilp, v => v = .pointer none
  | .slc b off len cap, v => ∃ r base e, ρ b = some (r, base, e) ∧ v = .slice (some ⟨r, base + off, none⟩) len cap
  | .slo b off len sz, v => ∃ r base e cap, ρ b = some (r, base, e) ∧ len ≤ cap ∧ base + off + cap * sz = e ∧ v = .slice (some ⟨r, base + off, none⟩) len cap
  | .nils, v => v = .slice none 0 0
  | .capx b off len sz, v => ∃ r base e cap, ρ b = some (r, base, e) ∧ len ≤ cap ∧ base + off + cap * sz = e ∧ v = .int .i64 (Int.ofNat cap)
  | .emp, v => ∃ a cap, v = .slice (some a) 0 cap
  | .mp b, v => ∃ r base e, ρ b = some (r, base, e) ∧ v = .map (some r)
  | .nilm, v => v = .map none
  | .fn f a c, v => ∃ a' c' : List Value, VRs ρ a a' ∧ VRs ρ c c' ∧ v = .func f a'.toArray c'.toArray
  | .yld b, v => ∃ r base e, ρ b = some (r, base, e) ∧ v = .func (.yield r) #[] #[]
  | .nilf, v => v = .nilFunc
  | .ifc t x, v => ∃ y, VR ρ x y ∧ v = .iface t y
  | .nili, v => v = .nilIface
  | .agg cs, v => ∃ l : List Value, VRs ρ cs l ∧ v = .agg l.toArray
  | .tup cs, v => ∃ l : List Value, VRs ρ cs l ∧ v = .tuple l.toArray
  | .opq i, v => v = Opq.val i
def VRs (ρ : Rho) : List SV → List Value → Prop
  | [], l => l = []
  | x :: xs, l => ∃ y ys, VR ρ x y ∧ VRs ρ xs ys ∧ l = y :: ys
end

def Rho.le (ρ ρ' : Rho) : Prop := ∀ b x, ρ b = some x → ρ' b = some x
theorem Rho.le_refl (ρ : Rho) : ρ.le ρ := fun _ _ h => h
theorem Rho.le_trans {a b c : Rho} (h : a.le b) (k : b.le c) : a.le c := fun _ _ e => k _ _ (h _ _ e)

mutual
theorem VR.mono {ρ ρ' : Rho} (h : ρ.le ρ') : ∀ (x : SV) (v : Value), VR ρ x v → VR ρ' x v
  | .bad, _, hv => by simp [VR] at hv
  | .junk, _, _ => by simp [VR]
  | .bool _, _, hv => by simpa [VR] using hv
  | .int _ _, _, hv => by simpa [VR] using hv
  | .flt _ _, _, hv => by simpa [VR] using hv
  | .str _ _, _, hv => by simpa [VR] using hv
  | .ptr _ _, _, hv => by
    simp only [VR] at hv ⊢
    obtain ⟨r, base, e, hb, rfl⟩ := hv
    exact ⟨r, base, e, h _ _ hb, rfl⟩
  | .nilp, _, hv => by simpa [VR] using hv
  | .slc _ _ _ _, _, hv => by
    simp only [VR] at hv ⊢
    obtain ⟨r, base, e, hb, rfl⟩ := hv
    exact ⟨r, base, e, h _ _ hb, rfl⟩
  | .slo _ _ _ _, _, hv => by
    simp only [VR] at hv ⊢
    obtain ⟨r, base, e, cap, hb, h1, h2, rfl⟩ := hv
    exact ⟨r, base, e, cap, h _ _ hb, h1, h2, rfl⟩
  | .nils, _, hv => by simpa [VR] using hv
  | .capx _ _ _ _, _, hv => by
    simp only [VR] at hv ⊢
    obtain ⟨r, base, e, cap, hb, h1, h2, rfl⟩ := hv
    exact ⟨r, base, e, cap, h _ _ hb, h1, h2, rfl⟩
  | .emp, _, hv => by simpa [VR] using hv
  | .mp _, _, hv => by
    simp only [VR] at hv ⊢
    obtain ⟨r, base, e, hb, rfl⟩ := hv
    exact ⟨r, base, e, h _ _ hb, rfl⟩
  | .nilm, _, hv => by simpa [VR] using hv
  | .fn _ a c, _, hv => by
    simp only [VR] at hv ⊢
    obtain ⟨a', c', ha, hc, rfl⟩ := hv
    exact ⟨a', c', VRs.mono h a a' ha, VRs.mono h c c' hc, rfl⟩
  | .yld _, _, hv => by
    simp only [VR] at hv ⊢
    obtain ⟨r, base, e, hb, rfl⟩ := hv
    exact ⟨r, base, e, h _ _ hb, rfl⟩
  | .nilf, _, hv => by simpa [VR] using hv
  | .ifc _ x, _, hv => by
    simp only [VR] at hv ⊢
    obtain ⟨y, hy, rfl⟩ := hv
    exact ⟨y, VR.mono h x y hy, rfl⟩
  | .nili, _, hv => by simpa [VR] using hv
  | .agg cs, _, hv => by
    simp only [VR] at hv ⊢
    obtain ⟨l, hl, rfl⟩ := hv
    exact ⟨l, VRs.mono h cs l hl, rfl⟩
  | .tup cs, _, hv => by
    simp only [VR] at hv ⊢
    obtain ⟨l, hl, rfl⟩ := hv
    exact ⟨l, VRs.mono h cs l hl, rfl⟩
  | .opq _, _, hv => by simpa [VR] using hv
theorem VRs.mono {ρ ρ' : Rho} (h : ρ.le ρ') : ∀ (xs : List SV) (l : List Value), VRs ρ xs l → VRs ρ' xs l
  | [], _, hl => by simpa [VRs] using hl
  | x :: xs, _, hl => by
    simp only [VRs] at hl ⊢
    obtain ⟨y, ys, hy, hys, rfl⟩ := hl
    exact ⟨y, ys, VR.mono h x y hy, VRs.mono h xs ys hys, rfl⟩
end

mutual
/-- back along an extension: what was related before is related by the names that it had -/
theorem VR.back {ρ ρ' : Rho} (h : ρ.le ρ') : ∀ (x : SV) (u v : Value), VR ρ x u → VR ρ' x v → VR ρ x v
  | .bad, _, _, hu, _ => by simp [VR] at hu
  | .junk, _, _, _, _ => by simp [VR]
  | .bool _, _, _, _, hv => by simpa [VR] using hv
  | .int _ _, _, _, _, hv => by simpa [VR] using hv
  | .flt _ _, _, _, _, hv => by simpa [VR] using hv
  | .str _ _, _, _, _, hv => by simpa [VR] using hv
  | .ptr _ _, _, _, hu, hv => by
    simp only [VR] at hu hv ⊢
    obtain ⟨r, base, e, hb, _⟩ := hu
    obtain ⟨r', base', e', hb', rfl⟩ := hv
    rw [h _ _ hb] at hb'; cases hb'
    exact ⟨r, base, e, hb, rfl⟩
  | .nilp, _, _, _, hv => by simpa [VR] using hv
  | .slc _ _ _ _, _, _, hu, hv => by
    simp only [VR] at hu hv ⊢
    obtain ⟨r, base, e, hb, _⟩ := hu
    obtain ⟨r', base', e', hb', rfl⟩ := hv
    rw [h _ _ hb] at hb'; cases hb'
    exact ⟨r, base, e, hb, rfl⟩
  | .slo _ _ _ _, _, _, hu, hv => by
    simp only [VR] at hu hv ⊢
    obtain ⟨r, base, e, _, hb, _⟩ := hu
    obtain ⟨r', base', e', cap', hb', h1, h2, rfl⟩ := hv
    rw [h _ _ hb] at hb'; cases hb'
    exact ⟨r, base, e, cap', hb, h1, h2, rfl⟩
  | .nils, _, _, _, hv => by simpa [VR] using hv
  | .capx _ _ _ _, _, _, hu, hv => by
    simp only [VR] at hu hv ⊢
    obtain ⟨r, base, e, _, hb, _⟩ := hu
    obtain ⟨r', base', e', cap', hb', h1, h2, rfl⟩ := hv
    rw [h _ _ hb] at hb'; cases hb'
    exact ⟨r, base, e, cap', hb, h1, h2, rfl⟩
  | .emp, _, _, _, hv => by simpa [VR] using hv
  | .mp _, _, _, hu, hv => by
    simp only [VR] at hu hv ⊢
    obtain ⟨r, base, e, hb, _⟩ := hu
    obtain ⟨r', base', e', hb', rfl⟩ := hv
    rw [h _ _ hb] at hb'; cases hb'
    exact ⟨r, base, e, hb, rfl⟩
  | .nilm, _, _, _, hv => by simpa [VR] using hv
  | .fn _ a c, _, _, hu, hv => by
    simp only [VR] at hu hv ⊢
    obtain ⟨ua, uc, hua, huc, _⟩ := hu
    obtain ⟨a', c', ha, hc, rfl⟩ := hv
    exact ⟨a', c', VRs.back h a ua a' hua ha, VRs.back h c uc c' huc hc, rfl⟩
  | .yld _, _, _, hu, hv => by
    simp only [VR] at hu hv ⊢
    obtain ⟨r, base, e, hb, _⟩ := hu
    obtain ⟨r', base', e', hb', rfl⟩ := hv
    rw [h _ _ hb] at hb'; cases hb'
    exact ⟨r, base, e, hb, rfl⟩
  | .nilf, _, _, _, hv => by simpa [VR] using hv
  | .ifc _ x, _, _, hu, hv => by
    simp only [VR] at hu hv ⊢
    obtain ⟨u, hu, _⟩ := hu
    obtain ⟨y, hy, rfl⟩ := hv
    exact ⟨y, VR.back h x u y hu hy, rfl⟩
  | .nili, _, _, _, hv => by simpa [VR] using hv
  | .agg cs, _, _, hu, hv => by
    simp only [VR] at hu hv ⊢
    obtain ⟨u, hu, _⟩ := hu
    obtain ⟨l, hl, rfl⟩ := hv
    exact ⟨l, VRs.back h cs u l hu hl, rfl⟩
  | .tup cs, _, _, hu, hv => by
    simp only [VR] at hu hv ⊢
    obtain ⟨u, hu, _⟩ := hu
    obtain ⟨l, hl, rfl⟩ := hv
    exact ⟨l, VRs.back h cs u l hu hl, rfl⟩
  | .opq _, _, _, _, hv => by simpa [VR] using hv
theorem VRs.back {ρ ρ' : Rho} (h : ρ.le ρ') : ∀ (xs : List SV) (us l : List Value), VRs ρ xs us → VRs ρ' xs l → VRs ρ xs l
  | [], _, _, _, hl => by simpa [VRs] using hl
  | x :: xs, _, _, hu, hl => by
    simp only [VRs] at hu hl ⊢
    obtain ⟨u, us, hu, hus, _⟩ := hu
    obtain ⟨y, ys, hy, hys, rfl⟩ := hl
    exact ⟨y, ys, VR.back h x u y hu hy, VRs.back h xs us ys hus hys, rfl⟩
end

theorem VRs.nil_iff {ρ : Rho} {l : List Value} : VRs ρ [] l ↔ l = [] := by simp [VRs]
theorem VRs.cons {ρ : Rho} {x : SV} {xs : List SV} {y : Value} {ys : List Value} (h : VR ρ x y) (k : VRs ρ xs ys) : VRs ρ (x :: xs) (y :: ys) := by
  simp only [VRs]; exact ⟨y, ys, h, k, rfl⟩
theorem VRs.nil {ρ : Rho} : VRs ρ [] [] := by simp [VRs]
theorem VRs.cons_inv {ρ : Rho} {x : SV} {xs : List SV} {l : List Value} (h : VRs ρ (x :: xs) l) : ∃ y ys, VR ρ x y ∧ VRs ρ xs ys ∧ l = y :: ys := by simpa only [VRs] using h
theorem VRs.len {ρ : Rho} : ∀ {xs : List SV} {l : List Value}, VRs ρ xs l → l.length = xs.length
  | [], l, h => by rw [VRs.nil_iff] at h; subst h; rfl
  | x :: xs, l, h => by obtain ⟨y, ys, _, hys, rfl⟩ := h.cons_inv; simp [VRs.len hys]
theorem VRs.append {ρ : Rho} : ∀ {xs : List SV} {l : List Value} {ys : List SV} {m : List Value}, VRs ρ xs l → VRs ρ ys m → VRs ρ (xs ++ ys) (l ++ m)
  | [], l, ys, m, h, k => by rw [VRs.nil_iff] at h; subst h; exact k
  | x :: xs, l, ys, m, h, k => by obtain ⟨y, zs, hy, hzs, rfl⟩ := h.cons_inv; exact VRs.cons hy (VRs.append hzs k)
theorem VRs.get {ρ : Rho} : ∀ {xs : List SV} {l : List Value}, VRs ρ xs l → ∀ (i : Nat) (x : SV), xs[i]? = some x → ∃ v, l[i]? = some v ∧ VR ρ x v
  | [], _, _, i, x, hx => by simp at hx
  | y :: ys, l, h, i, x, hx => by
    obtain ⟨v, vs, hv, hvs, rfl⟩ := h.cons_inv
    cases i with
    | zero => simp at hx; subst hx; exact ⟨v, rfl, hv⟩
    | succ i => simp at hx; obtain ⟨u, hu, hr⟩ := VRs.get hvs i x hx; exact ⟨u, by simpa using hu, hr⟩
theorem VRs.of_get {ρ : Rho} : ∀ {xs : List SV} {l : List Value}, l.length = xs.length → (∀ (i : Nat) (x : SV) (v : Value), xs[i]? = some x → l[i]? = some v → VR ρ x v) → VRs ρ xs l
  | [], l, hl, _ => by rw [VRs.nil_iff]; exact List.eq_nil_of_length_eq_zero (by simpa using hl)
  | x :: xs, l, hl, h => by
    cases l with
    | nil => simp at hl
    | cons v vs => exact VRs.cons (h 0 x v rfl rfl) (VRs.of_get (by simpa using hl) fun i y u hy hu => h (i + 1) y u (by simpa using hy) (by simpa using hu))

/-- a value of one cell -/
theorem oneC_cell {ρ : Rho} {x : SV} {v : Value} (h : oneC x = true) (hv : VR ρ x v) : v.oneCell' = true := by
  cases x <;> simp [oneC] at h <;> simp only [VR] at hv
  all_goals first
    | (subst hv; rfl)
    | (obtain ⟨_, rfl, _⟩ := hv; rfl)
    | (obtain ⟨_, _, _, _, rfl⟩ := hv; rfl)
    | (obtain ⟨_, _, _, _, _, _, _, rfl⟩ := hv; rfl)
    | (obtain ⟨_, _, rfl⟩ := hv; rfl)
    | (subst hv; rename_i i; rcases Opq.shape i with ⟨_, hs⟩ | ⟨_, _, _, hs⟩ | ⟨_, _, hs⟩ <;> rw [hs] <;> rfl)
theorem cells_of_one {v : Value} (h : v.oneCell' = true) : v.cells = #[v] := by cases v <;> first | rfl | (simp [Value.oneCell'] at h)
theorem VR.cells {ρ : Rho} {x : SV} {v : Value} (hb : x ≠ .junk) (ht : ∀ l, x ≠ .tup l) (h : VR ρ x v) : VRs ρ (cellsOf x) v.cells.toList := by
  cases x with
  | agg cs => simp only [VR] at h; obtain ⟨l, hl, rfl⟩ := h; simpa [cellsOf, Value.cells] using hl
  | bad => simp [VR] at h
  | junk => exact absurd rfl hb
  | tup l => exact absurd rfl (ht l)
  | capx b o l z =>
    simp only [VR] at h; obtain ⟨r, base, e, cap, h1, h2, h3, rfl⟩ := h
    exact VRs.cons (by simp only [VR]; exact ⟨r, base, e, cap, h1, h2, h3, rfl⟩) VRs.nil
  | _ =>
    have hc : v.cells = #[v] := cells_of_one (oneC_cell rfl h)
    rw [hc]; exact VRs.cons h VRs.nil

end Go.Sh
namespace Go.Sh
variable [Opq]
open Go.RowKit (Below)

/-! ## lists of cells -/
theorem dropN_eq : ∀ (n : Nat) (l : List SV), dropN n l = l.drop n
  | 0, l => by simp [dropN]
  | n + 1, [] => by simp [dropN]
  | n + 1, x :: l => by simp [dropN, dropN_eq n l]
theorem takeN_some : ∀ (n : Nat) (l ds : List SV), takeN n l = some ds → ds = l.take n ∧ n ≤ l.length
  | 0, l, ds, h => by simp [takeN] at h; subst h; simp
  | n + 1, [], ds, h => by simp [takeN] at h
  | n + 1, x :: l, ds, h => by
    simp only [takeN] at h
    cases ht : takeN n l with
    | none => rw [ht] at h; simp at h
    | some m =>
      rw [ht] at h
      simp at h
      obtain ⟨h1, h2⟩ := takeN_some n l m ht
      subst h h1
      simp; omega
theorem put0_some : ∀ (xs cs l : List SV), putAt.put0 xs cs = some l → l.length = cs.length ∧ xs.length ≤ cs.length ∧ ∀ i, l[i]? = if i < xs.length then xs[i]? else cs[i]?
  | [], cs, l, h => by simp [putAt.put0] at h; subst h; simp
  | x :: xs, [], l, h => by simp [putAt.put0] at h
  | x :: xs, c :: cs, l, h => by
    simp only [putAt.put0] at h
    cases ht : putAt.put0 xs cs with
    | none => rw [ht] at h; simp at h
    | some m =>
      rw [ht] at h
      simp at h
      obtain ⟨h1, h2, h3⟩ := put0_some xs cs m ht
      subst h
      refine ⟨by simp [h1], by simp; omega, fun i => ?_⟩
      cases i with
      | zero => simp
      | succ i => simp [h3 i]
theorem putAt_some : ∀ (k : Nat) (xs cs l : List SV), putAt k xs cs = some l →
    l.length = cs.length ∧ k + xs.length ≤ cs.length ∧ ∀ i, l[i]? = if k ≤ i ∧ i < k + xs.length then xs[i - k]? else cs[i]?
  | 0, xs, cs, l, h => by
    simp only [putAt] at h
    obtain ⟨h1, h2, h3⟩ := put0_some xs cs l h
    exact ⟨h1, by omega, fun i => by simpa using h3 i⟩
  | k + 1, xs, [], l, h => by simp [putAt] at h
  | k + 1, xs, c :: cs, l, h => by
    simp only [putAt] at h
    cases ht : putAt k xs cs with
    | none => rw [ht] at h; simp at h
    | some m =>
      rw [ht] at h
      simp at h
      obtain ⟨h1, h2, h3⟩ := putAt_some k xs cs m ht
      subst h
      refine ⟨by simp [h1], by simp; omega, fun i => ?_⟩
      cases i with
      | zero => simp
      | succ i =>
        simp only [List.getElem?_cons_succ, h3 i]
        by_cases hc : k ≤ i ∧ i < k + xs.length
        · rw [if_pos hc, if_pos (by omega)]; congr 1; omega
        · rw [if_neg hc, if_neg (by omega)]
theorem minN_eq (a b : Nat) : minN a b = min a b := by
  unfold minN
  cases h : Nat.ble a b with
  | true => rw [cond_true, Nat.min_eq_left (Nat.le_of_ble_eq_true h)]
  | false => rw [cond_false]; have : ¬ a ≤ b := fun hle => by rw [Nat.ble_eq_true_of_le hle] at h; cases h
             omega

/-! ## blocks -/
def CR (ρ : Rho) (cs : List SV) (rc : Array Value) (base : Nat) : Prop := ∀ (i : Nat) (x : SV), cs[i]? = some x → ∃ v, rc[base + i]? = some v ∧ VR ρ x v
def Free (fz : Nat × Nat) (lo hi : Nat) : Prop := ∀ i, lo ≤ i → i < hi → ¬ (fz.1 ≤ i ∧ i < fz.2)
def ER (ρ : Rho) : List (SV × SV × Nat) → List MapEntry → Prop
  | [], l => l = []
  | x :: xs, l => ∃ e es, VR ρ x.1 e.key ∧ VR ρ x.2.1 e.val ∧ e.born = x.2.2 ∧ ER ρ xs es ∧ l = e :: es

def loopSt : Nat → LoopState
  | 0 => .ready
  | 1 => .busy
  | 2 => .done
  | _ => .exhausted
def BR (ρ : Rho) (base e : Nat) : SBlk → Option Obj → Prop
  | .none, _ => True
  | .cells ty cs, o => ∃ rc, o = some (.cells rc ty (0, 0)) ∧ rc.size = e ∧ base + cs.length = e ∧ base = 0 ∧ CR ρ cs rc base
  | .opn ty cs ub fzn st, o => ∃ rc fz, o = some (.cells rc ty fz) ∧ rc.size = e ∧ base + cs.length ≤ e ∧ (ub < big → e ≤ base + ub) ∧ CR ρ cs rc base ∧ Free fz (base + fzn) e ∧ (st = false → fz.2 ≤ base + fzn)
  | .ro _ cs, o => ∃ rc ty fz, o = some (.cells rc ty fz) ∧ CR ρ cs rc base
  | .map es clock, o => ∃ es' : Array MapEntry, o = some (.map es' clock) ∧ ER ρ es es'.toList
  | .siter len n pos, o => base = 0 ∧ ∃ s : ByteArray, o = some (.stringIter s pos) ∧ s.size = len ∧ natOf s.data.toList = n
  | .lp n env ps a c st pend dm, o => ∃ (l : Loop) (r' base' e' : Nat), o = some (.loop l) ∧ l.tmps.size = n ∧ (∀ t, env.get t ≠ .bad → ∃ v, l.tmps[t]? = some v ∧ VR ρ (env.get t) v) ∧ l.params = ps ∧ l.assign = a ∧ l.body = c ∧
      l.state = loopSt st ∧ l.pending = pend ∧ ρ dm = some (r', base', e') ∧ l.defers = r'
  | .dm, o => o = some (.deferred (some []))
  | .mapp _, _ => True
  | .mapx es, o => ∃ (es' : Array MapEntry) (clock : Nat) (l : List (SV × SV × Nat)), o = some (.map es' clock) ∧ ER ρ l es'.toList ∧ (l.map fun y => (y.1, y.2.1)).Perm (es.map fun x => (SV.str x.1 x.2.1, x.2.2)) ∧ (es.map fun x => (x.1, x.2.1)).Nodup

theorem CR.mono {ρ ρ' : Rho} (h : ρ.le ρ') {cs : List SV} {rc : Array Value} {base : Nat} (hc : CR ρ cs rc base) : CR ρ' cs rc base :=
  fun i x hx => let ⟨v, h1, h2⟩ := hc i x hx; ⟨v, h1, VR.mono h x v h2⟩
theorem ER.mono {ρ ρ' : Rho} (h : ρ.le ρ') : ∀ {xs : List (SV × SV × Nat)} {l : List MapEntry}, ER ρ xs l → ER ρ' xs l
  | [], _, hl => by simpa [ER] using hl
  | x :: xs, l, hl => by
    simp only [ER] at hl ⊢
    obtain ⟨e, es, h1, h2, h3, h4, rfl⟩ := hl
    exact ⟨e, es, VR.mono h _ _ h1, VR.mono h _ _ h2, h3, ER.mono h h4, rfl⟩
theorem BR.mono {ρ ρ' : Rho} (h : ρ.le ρ') {base e : Nat} {blk : SBlk} {o : Option Obj} (hb : BR ρ base e blk o) : BR ρ' base e blk o := by
  cases blk <;> simp only [BR] at hb ⊢
  · obtain ⟨rc, h1, h2, h3, h30, h4⟩ := hb; exact ⟨rc, h1, h2, h3, h30, h4.mono h⟩
  · obtain ⟨rc, fz, h1, h2, h3, h4, h5, h6⟩ := hb; exact ⟨rc, fz, h1, h2, h3, h4, h5.mono h, h6⟩
  · obtain ⟨rc, ty, fz, h1, h2⟩ := hb; exact ⟨rc, ty, fz, h1, h2.mono h⟩
  · obtain ⟨es', h1, h2⟩ := hb; exact ⟨es', h1, h2.mono h⟩
  · exact hb
  · obtain ⟨l, r', base', e', h1, h2, h3, h4, h5, h6, h7, h8, h9, h10⟩ := hb
    exact ⟨l, r', base', e', h1, h2, fun t ht => let ⟨v, q1, q2⟩ := h3 t ht; ⟨v, q1, VR.mono h _ _ q2⟩, h4, h5, h6, h7, h8, h _ _ h9, h10⟩
  · exact hb
  · obtain ⟨es', clock, l, h1, h2, h3⟩ := hb
    exact ⟨es', clock, l, h1, h2.mono h, h3⟩
theorem CR.back {ρ ρ' : Rho} (h : ρ.le ρ') {cs : List SV} {rc rc' : Array Value} {base : Nat} (h0 : CR ρ cs rc base) (hc : CR ρ' cs rc' base) : CR ρ cs rc' base :=
  fun i x hx => let ⟨u, _, h1⟩ := h0 i x hx; let ⟨v, h2, h3⟩ := hc i x hx; ⟨v, h2, VR.back h x u v h1 h3⟩
theorem ER.back {ρ ρ' : Rho} (h : ρ.le ρ') : ∀ {xs : List (SV × SV × Nat)} {l l' : List MapEntry}, ER ρ xs l → ER ρ' xs l' → ER ρ xs l'
  | [], _, _, _, hl => by simpa [ER] using hl
  | x :: xs, l, l', h0, hl => by
    simp only [ER] at h0 hl ⊢
    obtain ⟨u, us, g1, g2, _, g4, _⟩ := h0
    obtain ⟨e, es, h1, h2, h3, h4, rfl⟩ := hl
    exact ⟨e, es, VR.back h _ _ _ g1 h1, VR.back h _ _ _ g2 h2, h3, ER.back h g4 h4, rfl⟩
theorem ER.has {ρ : Rho} : ∀ {xs : List (SV × SV × Nat)} {l : List MapEntry}, ER ρ xs l → ∀ x ∈ xs, (∃ u, VR ρ x.1 u) ∧ ∃ u, VR ρ x.2.1 u
  | [], _, _, x, hx => by cases hx
  | y :: ys, l, hl, x, hx => by
    simp only [ER] at hl
    obtain ⟨e, es, h1, h2, _, h4, _⟩ := hl
    rcases List.mem_cons.1 hx with rfl | hx
    · exact ⟨⟨_, h1⟩, ⟨_, h2⟩⟩
    · exact ER.has h4 x hx
theorem ER.back' {ρ ρ' : Rho} (h : ρ.le ρ') : ∀ {xs : List (SV × SV × Nat)} {l : List MapEntry}, (∀ x ∈ xs, (∃ u, VR ρ x.1 u) ∧ ∃ u, VR ρ x.2.1 u) → ER ρ' xs l → ER ρ xs l
  | [], _, _, hl => by simpa [ER] using hl
  | x :: xs, l, h0, hl => by
    simp only [ER] at hl ⊢
    obtain ⟨e, es, h1, h2, h3, h4, rfl⟩ := hl
    obtain ⟨⟨u1, q1⟩, ⟨u2, q2⟩⟩ := h0 x (List.mem_cons_self)
    exact ⟨e, es, VR.back h _ _ _ q1 h1, VR.back h _ _ _ q2 h2, h3, ER.back' h (fun y hy => h0 y (List.mem_cons_of_mem _ hy)) h4, rfl⟩
theorem BR.back {ρ ρ' : Rho} (h : ρ.le ρ') {base e : Nat} {blk : SBlk} {o o' : Option Obj} (h0 : BR ρ base e blk o) (hb : BR ρ' base e blk o') : BR ρ base e blk o' := by
  cases blk <;> simp only [BR] at h0 hb ⊢
  · obtain ⟨_, _, _, _, _, g4⟩ := h0; obtain ⟨rc, h1, h2, h3, h30, h4⟩ := hb; exact ⟨rc, h1, h2, h3, h30, g4.back h h4⟩
  · obtain ⟨_, _, _, _, _, _, g5, _⟩ := h0; obtain ⟨rc, fz, h1, h2, h3, h4, h5, h6⟩ := hb; exact ⟨rc, fz, h1, h2, h3, h4, g5.back h h5, h6⟩
  · obtain ⟨_, _, _, _, g2⟩ := h0; obtain ⟨rc, ty, fz, h1, h2⟩ := hb; exact ⟨rc, ty, fz, h1, g2.back h h2⟩
  · obtain ⟨_, _, g2⟩ := h0; obtain ⟨es', h1, h2⟩ := hb; exact ⟨es', h1, g2.back h h2⟩
  · exact hb
  · obtain ⟨_, r0, base0, e0, _, _, g3, _, _, _, _, _, g9, _⟩ := h0
    obtain ⟨l, r', base', e', h1, h2, h3, h4, h5, h6, h7, h8, h9, h10⟩ := hb
    have := h _ _ g9
    rw [h9] at this
    cases this
    exact ⟨l, _, _, _, h1, h2, fun t ht => let ⟨v, q1, q2⟩ := h3 t ht; let ⟨u, _, q3⟩ := g3 t ht; ⟨v, q1, VR.back h _ u _ q3 q2⟩, h4, h5, h6, h7, h8, g9, h10⟩
  · exact hb
  · obtain ⟨_, _, l0, _, g2, g3, _⟩ := h0
    obtain ⟨es', clock, l, h1, h2, h3, h4⟩ := hb
    refine ⟨es', clock, l, h1, ER.back' h (fun x hx => ?_) h2, h3, h4⟩
    have hm : (x.1, x.2.1) ∈ l0.map fun y => (y.1, y.2.1) := (h3.trans g3.symm).mem_iff.1 (List.mem_map.2 ⟨x, hx, rfl⟩)
    obtain ⟨y, hy, he⟩ := List.mem_map.1 hm
    obtain ⟨u1, u2⟩ := ER.has g2 y hy
    rw [Prod.mk.injEq] at he
    rw [← he.1, ← he.2]
    exact ⟨u1, u2⟩

def writable : SBlk → Bool
  | .none => false
  | .ro .. => false
  | .mapx _ => false
  | _ => true

/-- how many blocks lie below the run's own; I: what is known of the world as long as those stay as they are -/
structure Bound (I : Rho → World → Prop) where
  n : Nat
  stable : ∀ ρ ρ' w w', I ρ w → Rho.le ρ ρ' → Below n w w' → I ρ' w'
instance {I : Rho → World → Prop} : CoeOut (Bound I) Nat := ⟨Bound.n⟩
variable {I : Rho → World → Prop}
structure Rel (ρ : Rho) (N : Bound I) (s : St) (w : World) : Prop where
  fresh : ∀ b, s.nx ≤ b → ρ b = none
  live : ∀ b r base e, ρ b = some (r, base, e) → BR ρ base e (s.h.get b) w.heap[r]?
  bound : ∀ b r base e, ρ b = some (r, base, e) → r < w.heap.size
  low : ∀ b r base e, ρ b = some (r, base, e) → writable (s.h.get b) = true → N ≤ r
  inj : ∀ b b' r base e base' e', ρ b = some (r, base, e) → ρ b' = some (r, base', e') → writable (s.h.get b) = true → isNone (s.h.get b') = false → b = b'
  size : N ≤ w.heap.size
  inv : I ρ w

structure Ext (ρ : Rho) (s : St) (ρ' : Rho) (s' : St) : Prop where
  le : ρ.le ρ'
  keep : ∀ b, b < s.nx → ρ b = none → ρ' b = none ∧ s'.h.get b = s.h.get b
  nx : s.nx ≤ s'.nx
  lo : s'.lo ≤ s.lo
  same : ∀ b, b < s.nx → b < s'.lo → s'.h.get b = s.h.get b

theorem Ext.refl (ρ : Rho) (s : St) : Ext ρ s ρ s := ⟨Rho.le_refl ρ, fun _ _ h => ⟨h, rfl⟩, Nat.le_refl _, Nat.le_refl _, fun _ _ _ => rfl⟩
theorem Ext.trans {ρ ρ' ρ'' : Rho} {s s' s'' : St} (h : Ext ρ s ρ' s') (k : Ext ρ' s' ρ'' s'') : Ext ρ s ρ'' s'' where
  le := Rho.le_trans h.le k.le
  keep b hb hn := by
    obtain ⟨h1, h2⟩ := h.keep b hb hn
    obtain ⟨k1, k2⟩ := k.keep b (Nat.lt_of_lt_of_le hb h.nx) h1
    exact ⟨k1, k2.trans h2⟩
  nx := Nat.le_trans h.nx k.nx
  lo := Nat.le_trans k.lo h.lo
  same b hb hl := by
    rw [k.same b (Nat.lt_of_lt_of_le hb h.nx) hl]
    exact h.same b hb (Nat.lt_of_lt_of_le hl k.lo)

/-! ## worlds -/
def putB (w : World) (r : Nat) (o : Obj) : World := { w with heap := w.heap.setIfInBounds r o }
def newB (w : World) (o : Obj) : World := { w with heap := w.heap.push o }

theorem putB_get (w : World) (r : Nat) (o : Obj) (hr : r < w.heap.size) (k : Nat) : (putB w r o).heap[k]? = if k = r then some o else w.heap[k]? := by
  simp only [putB, Array.getElem?_setIfInBounds]
  by_cases h : k = r
  · subst h; simp [hr]
  · rw [if_neg (fun e => h e.symm), if_neg h]
theorem putB_same (w : World) (r : Nat) (o : Obj) (h : w.heap[r]? = some o) : putB w r o = w := by
  have : w.heap.setIfInBounds r o = w.heap := by
    apply Array.ext_getElem?
    intro i
    simp only [Array.getElem?_setIfInBounds]
    by_cases e : r = i
    · subst e
      have hlt : r < w.heap.size := (Array.getElem?_eq_some_iff.1 h).1
      have h' := h; rw [Array.getElem?_eq_getElem hlt] at h'; simp only [Option.some.injEq] at h'; simp [hlt, h']
    · rw [if_neg e]
  simp only [putB, this]
theorem putB_putB (w : World) (r : Nat) (o o' : Obj) : putB (putB w r o) r o' = putB w r o' := by
  simp [putB]
theorem newB_get (w : World) (o : Obj) (k : Nat) : (newB w o).heap[k]? = if k = w.heap.size then some o else w.heap[k]? := by
  simp only [newB, Array.getElem?_push]

theorem Below.putB {N : Nat} {w : World} {r : Nat} {o : Obj} (h : N ≤ r) : Below N w (putB w r o) :=
  ⟨rfl, rfl, rfl, by simp [Sh.putB], fun k hk => by simp only [Sh.putB, Array.getElem?_setIfInBounds]; rw [if_neg (by omega)]⟩
theorem Below.newB {N : Nat} {w : World} {o : Obj} (h : N ≤ w.heap.size) : Below N w (newB w o) :=
  ⟨rfl, rfl, rfl, by simp [Sh.newB], fun k hk => by rw [newB_get, if_neg (by omega)]⟩

theorem isNone_of_writable {b : SBlk} (h : writable b = true) : isNone b = false := by cases b <;> simp [writable] at h <;> rfl

theorem Rel.put {ρ : Rho} {N : Bound I} {s : St} {w : World} (H : Rel ρ N s w) {b r base e : Nat} (hb : ρ b = some (r, base, e)) (hw : writable (s.h.get b) = true) {blk : SBlk} {o : Obj}
    (hB : BR ρ base e blk (some o)) : Rel ρ N (s.put b blk) (putB w r o) where
  fresh b' hb' := H.fresh b' hb'
  live b' r' base' e' hb' := by
    have hbnd := H.bound _ _ _ _ hb
    rw [putB_get _ _ _ hbnd]
    by_cases hbb : b' = b
    · subst hbb
      rw [hb] at hb'; cases hb'
      rw [if_pos rfl]
      show BR ρ base e ((s.h.set b' blk).get b') _
      rcases Hp.get_set_eq s.h b' blk with hg | hg <;> rw [hg]
      · exact hB
      · simp [BR]
    · show BR ρ base' e' ((s.h.set b blk).get b') _
      rw [Hp.get_set_ne _ _ _ _ hbb]
      by_cases hrr : r' = r
      · subst hrr
        cases hnn : isNone (s.h.get b') with
        | true => cases hg : s.h.get b' <;> rw [hg] at hnn <;> simp [isNone] at hnn; simp [BR]
        | false => exact absurd (H.inj _ _ _ _ _ _ _ hb hb' hw hnn).symm hbb
      · rw [if_neg hrr]; exact H.live _ _ _ _ hb'
  bound b' r' base' e' hb' := by have := H.bound _ _ _ _ hb'; simpa [putB] using this
  low b' r' base' e' hb' hw' := by
    by_cases hbb : b' = b
    · subst hbb; rw [hb] at hb'; cases hb'; exact H.low _ _ _ _ hb hw
    · have : (s.put b blk).h.get b' = s.h.get b' := Hp.get_set_ne _ _ _ _ hbb
      rw [this] at hw'; exact H.low _ _ _ _ hb' hw'
  inj b1 b2 r' x1 y1 x2 y2 h1 h2 n1 n2 := by
    have key : ∀ b', isNone ((s.put b blk).h.get b') = false → isNone (s.h.get b') = false := by
      intro b' hn'
      by_cases hbb : b' = b
      · subst hbb; exact isNone_of_writable hw
      · have : (s.put b blk).h.get b' = s.h.get b' := Hp.get_set_ne _ _ _ _ hbb
        rw [this] at hn'; exact hn'
    have keyw : ∀ b', writable ((s.put b blk).h.get b') = true → writable (s.h.get b') = true := by
      intro b' hn'
      by_cases hbb : b' = b
      · subst hbb; exact hw
      · have : (s.put b blk).h.get b' = s.h.get b' := Hp.get_set_ne _ _ _ _ hbb
        rw [this] at hn'; exact hn'
    exact H.inj _ _ _ _ _ _ _ h1 h2 (keyw _ n1) (key _ n2)
  size := by simpa [putB] using H.size
  inv := N.stable _ _ _ _ H.inv (Rho.le_refl ρ) (Below.putB (H.low _ _ _ _ hb hw))

theorem Ext.put {ρ : Rho} {N : Bound I} {s : St} {w : World} (_H : Rel ρ N s w) {b r base e : Nat} (hb : ρ b = some (r, base, e)) (blk : SBlk) : Ext ρ s ρ (s.put b blk) where
  le := Rho.le_refl ρ
  keep b' _ hn := ⟨hn, Hp.get_set_ne _ _ _ _ (fun e' => by rw [e', hb] at hn; cases hn)⟩
  nx := Nat.le_refl _
  lo := by show minN s.lo b ≤ s.lo; rw [minN_eq]; omega
  same b' _ hl := Hp.get_set_ne _ _ _ _ (fun e' => by subst e'; have hl' : b' < minN s.lo b' := hl; rw [minN_eq] at hl'; omega)

def Rho.add (ρ : Rho) (b : Nat) (x : Nat × Nat × Nat) : Rho := fun b' => if b' = b then some x else ρ b'
theorem Rho.le_add {ρ : Rho} {b : Nat} {x : Nat × Nat × Nat} (h : ρ b = none) : ρ.le (ρ.add b x) := fun b' y hy => by
  unfold Rho.add
  by_cases e : b' = b
  · subst e; rw [h] at hy; cases hy
  · rw [if_neg e]; exact hy
theorem Rho.add_self (ρ : Rho) (b : Nat) (x : Nat × Nat × Nat) : (ρ.add b x) b = some x := by simp [Rho.add]
theorem Rho.add_ne (ρ : Rho) {b b' : Nat} (x : Nat × Nat × Nat) (h : b' ≠ b) : (ρ.add b x) b' = ρ b' := by simp [Rho.add, h]

theorem Rel.new {ρ : Rho} {N : Bound I} {s : St} {w : World} (H : Rel ρ N s w) {blk : SBlk} {o : Obj} {base e : Nat}
    (hB : BR ρ base e blk (some o)) : Rel (ρ.add s.nx (w.heap.size, base, e)) N (s.new blk) (newB w o) where
  fresh b hb := by
    have hb' : s.nx < b := hb
    rw [Rho.add_ne _ _ (by omega)]
    exact H.fresh b (by omega)
  live b r base' e' hb := by
    have hn := H.fresh s.nx (Nat.le_refl _)
    have hle := Rho.le_add (x := (w.heap.size, base, e)) hn
    rw [newB_get]
    by_cases hbb : b = s.nx
    · subst hbb
      rw [Rho.add_self] at hb; cases hb
      rw [if_pos rfl]
      show BR _ base e ((s.h.set s.nx blk).get s.nx) _
      rcases Hp.get_set_eq s.h s.nx blk with hg | hg <;> rw [hg]
      · exact hB.mono hle
      · simp [BR]
    · rw [Rho.add_ne _ _ hbb] at hb
      show BR _ base' e' ((s.h.set s.nx blk).get b) _
      rw [Hp.get_set_ne _ _ _ _ hbb]
      have hlt := H.bound _ _ _ _ hb
      rw [if_neg (by omega)]
      exact (H.live _ _ _ _ hb).mono hle
  bound b r base' e' hb := by
    have hs : (newB w o).heap.size = w.heap.size + 1 := by simp [newB]
    by_cases hbb : b = s.nx
    · subst hbb; rw [Rho.add_self] at hb; cases hb; omega
    · rw [Rho.add_ne _ _ hbb] at hb; have := H.bound _ _ _ _ hb; omega
  low b r base' e' hb hw := by
    by_cases hbb : b = s.nx
    · subst hbb; rw [Rho.add_self] at hb; cases hb; exact H.size
    · rw [Rho.add_ne _ _ hbb] at hb
      have : (s.new blk).h.get b = s.h.get b := Hp.get_set_ne _ _ _ _ hbb
      rw [this] at hw; exact H.low _ _ _ _ hb hw
  inj b1 b2 r x1 y1 x2 y2 h1 h2 n1 n2 := by
    by_cases e1 : b1 = s.nx <;> by_cases e2 : b2 = s.nx
    · rw [e1, e2]
    · subst e1; rw [Rho.add_self] at h1; cases h1; rw [Rho.add_ne _ _ e2] at h2; exact absurd (H.bound _ _ _ _ h2) (by omega)
    · subst e2; rw [Rho.add_self] at h2; cases h2; rw [Rho.add_ne _ _ e1] at h1; exact absurd (H.bound _ _ _ _ h1) (by omega)
    · rw [Rho.add_ne _ _ e1] at h1; rw [Rho.add_ne _ _ e2] at h2
      have g1 : (s.new blk).h.get b1 = s.h.get b1 := Hp.get_set_ne _ _ _ _ e1
      have g2 : (s.new blk).h.get b2 = s.h.get b2 := Hp.get_set_ne _ _ _ _ e2
      rw [g1] at n1; rw [g2] at n2
      exact H.inj _ _ _ _ _ _ _ h1 h2 n1 n2
  size := by have := H.size; simp [newB]; omega
  inv := N.stable _ _ _ _ H.inv (Rho.le_add (H.fresh s.nx (Nat.le_refl _))) (Below.newB H.size)

theorem Ext.new {ρ : Rho} {N : Bound I} {s : St} {w : World} (H : Rel ρ N s w) (blk : SBlk) (x : Nat × Nat × Nat) : Ext ρ s (ρ.add s.nx x) (s.new blk) where
  le := Rho.le_add (H.fresh _ (Nat.le_refl _))
  keep b hb hn := ⟨by rw [Rho.add_ne _ _ (by omega)]; exact hn, Hp.get_set_ne _ _ _ _ (by omega)⟩
  nx := Nat.le_succ _
  lo := Nat.le_refl _
  same b hb _ := Hp.get_set_ne _ _ _ _ (by omega)

theorem Below.drawn {N : Nat} {w : World} (d : Nat) : Below N w { w with drawn := d } := ⟨rfl, rfl, rfl, Nat.le_refl _, fun _ _ => rfl⟩
theorem Rel.drawn {ρ : Rho} {N : Bound I} {s : St} {w : World} (H : Rel ρ N s w) (d : Nat) : Rel ρ N s { w with drawn := d } :=
  ⟨H.fresh, H.live, H.bound, H.low, H.inj, H.size, N.stable _ _ _ _ H.inv (Rho.le_refl ρ) (Below.drawn d)⟩

/-- a block that goes on under a new name -/
theorem Rel.move {ρ : Rho} {N : Bound I} {s : St} {w : World} (H : Rel ρ N s w) {b r base e : Nat} (hb : ρ b = some (r, base, e)) (hw : writable (s.h.get b) = true) {blk : SBlk} {o : Obj} {base' e' : Nat}
    (hB : BR ρ base' e' blk (some o)) : Rel (ρ.add s.nx (r, base', e')) N ((s.put b .none).new blk) (putB w r o) := by
  have hnx : b ≠ s.nx := fun h => by have := H.fresh s.nx (Nat.le_refl _); rw [← h, hb] at this; cases this
  have hbnd := H.bound _ _ _ _ hb
  have hn := H.fresh s.nx (Nat.le_refl _)
  have hle := Rho.le_add (x := (r, base', e')) hn
  have gnew : ((s.put b .none).new blk).h.get s.nx = blk ∨ ((s.put b .none).new blk).h.get s.nx = .none := Hp.get_set_eq (s.h.set b .none) s.nx blk
  have gb : ((s.put b .none).new blk).h.get b = .none := by
    have h1 : ((s.put b .none).new blk).h.get b = (s.h.set b .none).get b := Hp.get_set_ne _ _ _ _ hnx
    rw [h1]; rcases Hp.get_set_eq s.h b .none with hg | hg <;> exact hg
  have gne : ∀ b', b' ≠ s.nx → b' ≠ b → ((s.put b .none).new blk).h.get b' = s.h.get b' := fun b' h1 h2 => by
    have h3 : ((s.put b .none).new blk).h.get b' = (s.h.set b .none).get b' := Hp.get_set_ne _ _ _ _ h1
    rw [h3]; exact Hp.get_set_ne _ _ _ _ h2
  have other : ∀ b' base e, b' ≠ b → ρ b' = some (r, base, e) → isNone (s.h.get b') = true := fun b' base e h1 h2 => by
    cases hnn : isNone (s.h.get b') with
    | true => rfl
    | false => exact absurd (H.inj _ _ _ _ _ _ _ hb h2 hw hnn).symm h1
  refine ⟨?_, ?_, ?_, ?_, ?_, ?_, N.stable _ _ _ _ H.inv hle (Below.putB (H.low _ _ _ _ hb hw))⟩
  · intro b' hb'
    have hb'' : s.nx < b' := hb'
    rw [Rho.add_ne _ _ (by omega)]
    exact H.fresh b' (by omega)
  · intro b' r' x y h
    rw [putB_get _ _ _ hbnd]
    by_cases h1 : b' = s.nx
    · subst h1
      rw [Rho.add_self] at h; cases h
      rw [if_pos rfl]
      rcases gnew with hg | hg <;> rw [hg]
      · exact hB.mono hle
      · simp [BR]
    · rw [Rho.add_ne _ _ h1] at h
      by_cases h2 : b' = b
      · subst h2; rw [gb]; simp [BR]
      · rw [gne b' h1 h2]
        by_cases hrr : r' = r
        · subst hrr
          have := other b' _ _ h2 h
          cases hg : s.h.get b' <;> rw [hg] at this <;> simp [isNone] at this
          simp [BR]
        · rw [if_neg hrr]; exact (H.live _ _ _ _ h).mono hle
  · intro b' r' x y h
    have hs : (putB w r o).heap.size = w.heap.size := by simp [putB]
    by_cases h1 : b' = s.nx
    · subst h1; rw [Rho.add_self] at h; cases h; omega
    · rw [Rho.add_ne _ _ h1] at h; have := H.bound _ _ _ _ h; omega
  · intro b' r' x y h hw'
    by_cases h1 : b' = s.nx
    · subst h1; rw [Rho.add_self] at h; cases h; exact H.low _ _ _ _ hb hw
    · rw [Rho.add_ne _ _ h1] at h
      by_cases h2 : b' = b
      · subst h2; rw [gb] at hw'; simp [writable] at hw'
      · rw [gne b' h1 h2] at hw'; exact H.low _ _ _ _ h hw'
  · intro b1 b2 r' x1 y1 x2 y2 h1 h2 n1 n2
    by_cases e1 : b1 = s.nx <;> by_cases e2 : b2 = s.nx
    · rw [e1, e2]
    · subst e1; rw [Rho.add_self] at h1; cases h1
      rw [Rho.add_ne _ _ e2] at h2
      by_cases k2 : b2 = b
      · subst k2; rw [gb] at n2; simp [isNone] at n2
      · rw [gne b2 e2 k2] at n2
        have := other b2 _ _ k2 h2
        rw [n2] at this; cases this
    · subst e2; rw [Rho.add_self] at h2; cases h2
      rw [Rho.add_ne _ _ e1] at h1
      by_cases k1 : b1 = b
      · subst k1; rw [gb] at n1; simp [writable] at n1
      · rw [gne b1 e1 k1] at n1
        have := other b1 _ _ k1 h1
        rw [isNone_of_writable n1] at this; cases this
    · rw [Rho.add_ne _ _ e1] at h1; rw [Rho.add_ne _ _ e2] at h2
      by_cases k1 : b1 = b
      · subst k1; rw [gb] at n1; simp [writable] at n1
      · by_cases k2 : b2 = b
        · subst k2; rw [gb] at n2; simp [isNone] at n2
        · rw [gne b1 e1 k1] at n1; rw [gne b2 e2 k2] at n2
          exact H.inj _ _ _ _ _ _ _ h1 h2 n1 n2
  · simpa [putB] using H.size
theorem Ext.move {ρ : Rho} {N : Bound I} {s : St} {w : World} (H : Rel ρ N s w) {b r base e : Nat} (hb : ρ b = some (r, base, e)) (blk : SBlk) (x : Nat × Nat × Nat) :
    Ext ρ s (ρ.add s.nx x) ((s.put b .none).new blk) where
  le := Rho.le_add (H.fresh _ (Nat.le_refl _))
  keep b' hb' hn := ⟨by rw [Rho.add_ne _ _ (by omega)]; exact hn, by
    have h1 : ((s.put b .none).new blk).h.get b' = (s.h.set b .none).get b' := Hp.get_set_ne _ _ _ _ (by show b' ≠ s.nx; omega)
    rw [h1]; exact Hp.get_set_ne _ _ _ _ (fun e' => by rw [e', hb] at hn; cases hn)⟩
  nx := Nat.le_succ _
  lo := by show minN s.lo b ≤ s.lo; rw [minN_eq]; omega
  same b' hb' hl := by
    have hl' : b' < minN s.lo b := hl
    rw [minN_eq] at hl'
    have h1 : ((s.put b .none).new blk).h.get b' = (s.h.set b .none).get b' := Hp.get_set_ne _ _ _ _ (by show b' ≠ s.nx; omega)
    rw [h1]; exact Hp.get_set_ne _ _ _ _ (by omega)

/-- a state whose heap holds less -/
theorem Rel.lo {ρ : Rho} {N : Bound I} {s : St} {w : World} (H : Rel ρ N s w) (l : Nat) : Rel ρ N ⟨s.h, s.nx, l⟩ w := ⟨H.fresh, H.live, H.bound, H.low, H.inj, H.size, H.inv⟩
theorem Rel.drop {ρ : Rho} {N : Bound I} {s : St} {w : World} (H : Rel ρ N s w) (b : Nat) : Rel ρ N (s.put b .none) w where
  fresh := H.fresh
  live b' r base e hb := by
    show BR ρ base e ((s.h.set b .none).get b') _
    by_cases hbb : b' = b
    · subst hbb
      rcases Hp.get_set_eq s.h b' .none with hg | hg <;> rw [hg] <;> simp [BR]
    · rw [Hp.get_set_ne _ _ _ _ hbb]; exact H.live _ _ _ _ hb
  bound := H.bound
  low b' r base e hb hw := by
    by_cases hbb : b' = b
    · subst hbb
      have : (s.put b' .none).h.get b' = .none := by rcases Hp.get_set_eq s.h b' .none with hg | hg <;> exact hg
      rw [this] at hw; simp [writable] at hw
    · have : (s.put b .none).h.get b' = s.h.get b' := Hp.get_set_ne _ _ _ _ hbb
      rw [this] at hw; exact H.low _ _ _ _ hb hw
  inj b1 b2 r x1 y1 x2 y2 h1 h2 n1 n2 := by
    have key : ∀ b', isNone ((s.put b .none).h.get b') = false → isNone (s.h.get b') = false := by
      intro b' hn'
      by_cases hbb : b' = b
      · subst hbb
        have : (s.put b' .none).h.get b' = .none := by rcases Hp.get_set_eq s.h b' .none with hg | hg <;> exact hg
        rw [this] at hn'; simp [isNone] at hn'
      · have : (s.put b .none).h.get b' = s.h.get b' := Hp.get_set_ne _ _ _ _ hbb
        rw [this] at hn'; exact hn'
    have keyw : ∀ b', writable ((s.put b .none).h.get b') = true → writable (s.h.get b') = true := by
      intro b' hn'
      by_cases hbb : b' = b
      · subst hbb
        have : (s.put b' .none).h.get b' = .none := by rcases Hp.get_set_eq s.h b' .none with hg | hg <;> exact hg
        rw [this] at hn'; simp [writable] at hn'
      · have : (s.put b .none).h.get b' = s.h.get b' := Hp.get_set_ne _ _ _ _ hbb
        rw [this] at hn'; exact hn'
    exact H.inj _ _ _ _ _ _ _ h1 h2 (keyw _ n1) (key _ n2)
  size := H.size
  inv := H.inv

end Go.Sh
namespace Go.Sh
variable [Opq]
open Go.RowKit (Below)
variable {I : Rho → World → Prop}

/-! ## loads and stores of the model, at a block that is known -/
theorem add_addr (r o i : Nat) : (⟨r, o, none⟩ : Addr).add i = ⟨r, o + i, none⟩ := by
  unfold Addr.add
  split
  · rename_i h; subst h; rfl
  · rfl
theorem cell_at {w : World} {r ty : Nat} {rc : Array Value} {fz : Nat × Nat} (h : w.heap[r]? = some (.cells rc ty fz)) (o : Nat) : w.cell? ⟨r, o, none⟩ = rc[o]? := by
  simp [World.cell?, h]
theorem frozen_at {w : World} {r ty : Nat} {rc : Array Value} {fz : Nat × Nat} (h : w.heap[r]? = some (.cells rc ty fz)) (o : Nat) (hf : ¬ (fz.1 ≤ o ∧ o < fz.2)) : w.frozen? ⟨r, o, none⟩ = false := by
  obtain ⟨lo, hi⟩ := fz
  simp only [World.frozen?, h]
  simp only at hf
  rw [Bool.and_eq_false_iff]
  by_cases h1 : lo ≤ o
  · right; simp; omega
  · left; simp; omega
theorem setCell_putB {w : World} {r ty : Nat} {rc : Array Value} {fz : Nat × Nat} (h : w.heap[r]? = some (.cells rc ty fz)) (o : Nat) (v : Value) :
    w.setCell ⟨r, o, none⟩ v = putB w r (.cells (rc.setIfInBounds o v) ty fz) := by
  have hlt : r < w.heap.size := (Array.getElem?_eq_some_iff.1 h).1
  have hg : w.heap[r] = .cells rc ty fz := (Array.getElem?_eq_some_iff.1 h).2
  simp only [World.setCell, putB]
  congr 1
  apply Array.ext_getElem?
  intro i
  simp only [Array.getElem?_modify, Array.getElem?_setIfInBounds]
  by_cases e : r = i
  · subst e; simp [hlt, hg]
  · rw [if_neg e, if_neg e]

/-- cells stored one after the other -/
def setRow (rc : Array Value) (o : Nat) : List Value → Array Value
  | [] => rc
  | v :: vs => setRow (rc.setIfInBounds o v) (o + 1) vs
theorem setRow_size : ∀ (vs : List Value) (rc : Array Value) (o : Nat), (setRow rc o vs).size = rc.size
  | [], _, _ => rfl
  | v :: vs, rc, o => by simp [setRow, setRow_size vs]
theorem setRow_get : ∀ (vs : List Value) (rc : Array Value) (o : Nat), o + vs.length ≤ rc.size → ∀ i, (setRow rc o vs)[i]? = if o ≤ i ∧ i < o + vs.length then vs[i - o]? else rc[i]?
  | [], rc, o, _, i => by simp only [setRow, List.length_nil, Nat.add_zero]; rw [if_neg (by omega)]
  | v :: vs, rc, o, h, i => by
    simp only [List.length_cons] at h
    simp only [setRow]
    rw [setRow_get vs _ (o + 1) (by simp; omega) i]
    by_cases h1 : i = o
    · subst h1
      have hlt : i < rc.size := by omega
      rw [if_neg (by omega), if_pos (by simp)]
      simp [hlt]
    · by_cases h2 : o + 1 ≤ i ∧ i < o + 1 + vs.length
      · rw [if_pos h2, if_pos (by simp; omega)]
        have : i - o = (i - (o + 1)) + 1 := by omega
        rw [this]; simp
      · rw [if_neg h2, if_neg (by simp; omega)]
        rw [Array.getElem?_setIfInBounds_ne (by omega)]

theorem run_storeCells {P : Program} {r ty o : Nat} {fz : Nat × Nat} : ∀ (vs : List Value) (i : Nat) (w : World) (rc : Array Value), w.heap[r]? = some (.cells rc ty fz) →
    o + i + vs.length ≤ rc.size → Free fz (o + i) (o + i + vs.length) → (∀ v ∈ vs, v.oneCell' = true) →
    (storeCells ⟨r, o, none⟩ vs i).run P w = .ok () (putB w r (.cells (setRow rc (o + i) vs) ty fz))
  | [], i, w, rc, h, _, _, _ => by simp [storeCells, setRow, putB_same w r _ h]
  | v :: vs, i, w, rc, h, hs, hf, hv => by
    simp only [List.length_cons] at hs hf
    have hlt : r < w.heap.size := (Array.getElem?_eq_some_iff.1 h).1
    simp only [storeCells, Sem.run_bind, add_addr]
    rw [run_store P w _ v _ (hv v (by simp)), cell_at h, Array.getElem?_eq_getElem (by omega : o + i < rc.size)]
    simp only [frozen_at h (o + i) (hf (o + i) (by omega) (by omega)), Bool.false_eq_true, if_false, Result.andThen_ok]
    rw [setCell_putB h]
    have h' : (putB w r (.cells (rc.setIfInBounds (o + i) v) ty fz)).heap[r]? = some (.cells (rc.setIfInBounds (o + i) v) ty fz) := by rw [putB_get _ _ _ hlt, if_pos rfl]
    rw [run_storeCells vs (i + 1) _ _ h' (by simp; omega) (fun j h1 h2 => hf j (by omega) (by omega)) (fun u hu => hv u (by simp [hu])), putB_putB]
    rfl

theorem run_loadCellsFrom {P : Program} {w : World} {r ty o : Nat} {rc : Array Value} {fz : Nat × Nat} (h : w.heap[r]? = some (.cells rc ty fz)) : ∀ (n i : Nat) (acc : Array Value),
    o + i + n ≤ rc.size → (loadCellsFrom ⟨r, o, none⟩ i n acc).run P w = .ok (acc ++ ((rc.toList.drop (o + i)).take n).toArray) w
  | 0, i, acc, _ => by simp [loadCellsFrom]
  | n + 1, i, acc, hs => by
    simp only [loadCellsFrom, Sem.run_bind, add_addr, run_load]
    rw [cell_at h, Array.getElem?_eq_getElem (by omega : o + i < rc.size)]
    simp only [Result.andThen_ok]
    rw [run_loadCellsFrom h n (i + 1) _ (by omega)]
    congr 1
    have hlt : o + i < rc.toList.length := by simp; omega
    rw [List.drop_eq_getElem_cons hlt]
    simp [Nat.add_assoc]
theorem run_loadCells {P : Program} {w : World} {r ty o n : Nat} {rc : Array Value} {fz : Nat × Nat} (h : w.heap[r]? = some (.cells rc ty fz)) (hs : o + n ≤ rc.size) :
    (loadCells ⟨r, o, none⟩ n).run P w = .ok ((rc.toList.drop o).take n).toArray w := by
  unfold loadCells
  rw [run_loadCellsFrom h n 0 #[] (by omega)]
  simp

/-- the cells that are read are those that are known -/
theorem CR.read {ρ : Rho} {cs : List SV} {rc : Array Value} {base : Nat} (hc : CR ρ cs rc base) {off n : Nat} {ds : List SV} (h : takeN n (dropN off cs) = some ds) :
    VRs ρ ds ((rc.toList.drop (base + off)).take n) ∧ base + off + n ≤ rc.size ∨ n = 0 ∧ ds = [] := by
  obtain ⟨h1, h2⟩ := takeN_some n _ ds h
  rw [dropN_eq] at h1 h2
  by_cases hn : n = 0
  · subst hn; right; simp at h1; exact ⟨rfl, h1⟩
  · left
    simp only [List.length_drop] at h2
    have hlast : ∃ x, cs[off + (n - 1)]? = some x := ⟨_, List.getElem?_eq_getElem (by omega)⟩
    obtain ⟨x, hx⟩ := hlast
    obtain ⟨v, hv, _⟩ := hc _ x hx
    have hlt := (Array.getElem?_eq_some_iff.1 hv).1
    refine ⟨VRs.of_get ?_ ?_, by omega⟩
    · subst h1; simp; omega
    · intro i y u hy hu
      subst h1
      rw [List.getElem?_take] at hy hu
      by_cases hi : i < n
      · rw [if_pos hi, List.getElem?_drop] at hy hu
        obtain ⟨u', hu', hr⟩ := hc _ y hy
        rw [← Array.getElem?_toList, ← Nat.add_assoc, hu] at hu'
        cases hu'
        exact hr
      · rw [if_neg hi] at hy; cases hy

/-- writing known cells -/
theorem CR.write {ρ : Rho} {cs xs l : List SV} {rc : Array Value} {base off : Nat} {vs : List Value} (hc : CR ρ cs rc base) (h : putAt off xs cs = some l) (hv : VRs ρ xs vs) (hs : base + off + vs.length ≤ rc.size) :
    CR ρ l (setRow rc (base + off) vs) base := by
  obtain ⟨h1, h2, h3⟩ := putAt_some off xs cs l h
  have hl := hv.len
  intro i x hx
  rw [h3 i] at hx
  rw [setRow_get vs rc _ hs]
  by_cases hi : off ≤ i ∧ i < off + xs.length
  · rw [if_pos hi] at hx
    rw [if_pos (by omega)]
    obtain ⟨v, hv1, hv2⟩ := hv.get _ x hx
    exact ⟨v, by rw [← hv1]; congr 1; omega, hv2⟩
  · rw [if_neg hi] at hx
    rw [if_neg (by omega)]
    exact hc i x hx

theorem allOne_mem : ∀ {xs : List SV}, allOne xs = true → ∀ x ∈ xs, oneC x = true
  | [], _, x, hx => by simp at hx
  | y :: ys, h, x, hx => by
    simp only [allOne] at h
    cases hy : oneC y with
    | false => rw [hy] at h; simp at h
    | true =>
      rw [hy] at h
      simp only [cond_true] at h
      rcases List.mem_cons.1 hx with rfl | hx
      · exact hy
      · exact allOne_mem h x hx
theorem VRs.mem {ρ : Rho} : ∀ {xs : List SV} {l : List Value}, VRs ρ xs l → ∀ v ∈ l, ∃ x ∈ xs, VR ρ x v
  | [], l, h, v, hv => by rw [VRs.nil_iff] at h; subst h; simp at hv
  | x :: xs, l, h, v, hv => by
    obtain ⟨y, ys, hy, hys, rfl⟩ := h.cons_inv
    rcases List.mem_cons.1 hv with rfl | hv
    · exact ⟨x, by simp, hy⟩
    · obtain ⟨z, hz, hr⟩ := VRs.mem hys v hv
      exact ⟨z, by simp [hz], hr⟩
theorem one_of {ρ : Rho} {xs : List SV} {l : List Value} (h : allOne xs = true) (hv : VRs ρ xs l) : ∀ v ∈ l, v.oneCell' = true := fun v hm =>
  let ⟨x, hx, hr⟩ := hv.mem v hm; oneC_cell (allOne_mem h x hx) hr

/-- a write into a block -/
theorem write_sound {P : Program} {ρ : Rho} {N : Bound I} {s s' : St} {w : World} (H : Rel ρ N s w) {b off r base e : Nat} {xs : List SV} {vs : List Value} (h : writeN s b off xs = some s')
    (hb : ρ b = some (r, base, e)) (hv : VRs ρ xs vs) :
    ∃ w', (storeCells ⟨r, base + off, none⟩ vs).run P w = .ok () w' ∧ Rel ρ N s' w' ∧ Ext ρ s ρ s' ∧ Below N w w' := by
  unfold writeN at h
  cases ha : allOne xs with
  | false => rw [ha] at h; simp at h
  | true =>
    rw [ha, cond_true] at h
    have hone := one_of ha hv
    have hlen := hv.len
    have hL := H.live _ _ _ _ hb
    cases hg : s.h.get b with
    | cells ty cs =>
      rw [hg] at h hL
      simp only [writeB] at h
      cases hp : putAt off xs cs with
      | none => rw [hp] at h; simp at h
      | some l =>
        rw [hp] at h
        simp at h
        subst h
        obtain ⟨p1, p2, p3⟩ := putAt_some off xs cs l hp
        obtain ⟨rc, ho, hsz, hlen2, hb0, hcr⟩ := hL
        have hs : base + off + vs.length ≤ rc.size := by omega
        have hw : writable (s.h.get b) = true := by rw [hg]; rfl
        refine ⟨_, run_storeCells (P := P) vs 0 w rc ho (by omega) (fun i _ _ h2 => absurd h2.2 (Nat.not_lt_zero _)) hone, ?_, Ext.put H hb _, Below.putB (H.low _ _ _ _ hb hw)⟩
        refine H.put hb hw ?_
        exact ⟨setRow rc (base + off) vs, by simp, by rw [setRow_size]; exact hsz, by omega, hb0, hcr.write hp hv hs⟩
    | opn ty cs ub fzn st =>
      rw [hg] at h hL
      simp only [writeB] at h
      cases hfo : Nat.ble fzn off with
      | false => rw [hfo] at h; simp at h
      | true =>
        rw [hfo, cond_true] at h
        have hfo' := Nat.le_of_ble_eq_true hfo
        cases hp : putAt off xs cs with
        | none => rw [hp] at h; simp at h
        | some l =>
          rw [hp] at h
          simp at h
          subst h
          obtain ⟨p1, p2, p3⟩ := putAt_some off xs cs l hp
          obtain ⟨rc, fz, ho, hsz, hlen2, hub, hcr, hfr, hst⟩ := hL
          have hs : base + off + vs.length ≤ rc.size := by omega
          have hw : writable (s.h.get b) = true := by rw [hg]; rfl
          refine ⟨_, run_storeCells (P := P) vs 0 w rc ho (by omega) (fun i h1 h2 => hfr i (by omega) (by omega)) hone, ?_, Ext.put H hb _, Below.putB (H.low _ _ _ _ hb hw)⟩
          refine H.put hb hw ?_
          exact ⟨setRow rc (base + off) vs, fz, by simp, by rw [setRow_size]; exact hsz, by omega, hub, hcr.write hp hv hs, hfr, hst⟩
    | none => rw [hg] at h; simp [writeB] at h
    | ro ty cs => rw [hg] at h; simp [writeB] at h
    | map es c => rw [hg] at h; simp [writeB] at h
    | siter l n p => rw [hg] at h; simp [writeB] at h
    | lp _ _ _ _ _ _ _ _ => rw [hg] at h; simp [writeB] at h
    | dm => rw [hg] at h; simp [writeB] at h
    | mapp _ => rw [hg] at h; simp [writeB] at h
    | mapx _ => rw [hg] at h; simp [writeB] at h

/-- what is known of a block that is read -/
theorem read_block {ρ : Rho} {N : Bound I} {s : St} {w : World} (H : Rel ρ N s w) {b r base e : Nat} {cs : List SV} (h : readB (s.h.get b) = some cs) (hb : ρ b = some (r, base, e)) :
    ∃ rc ty fz, w.heap[r]? = some (.cells rc ty fz) ∧ CR ρ cs rc base := by
  have hL := H.live _ _ _ _ hb
  cases hg : s.h.get b <;> rw [hg] at h hL <;> simp [readB] at h
  · subst h; obtain ⟨rc, ho, _, _, _, hcr⟩ := hL; exact ⟨rc, _, _, ho, hcr⟩
  · subst h; obtain ⟨rc, fz, ho, _, _, _, hcr, _⟩ := hL; exact ⟨rc, _, fz, ho, hcr⟩
  · subst h; obtain ⟨rc, ty, fz, ho, hcr⟩ := hL; exact ⟨rc, ty, fz, ho, hcr⟩

theorem readN_sound {P : Program} {ρ : Rho} {N : Bound I} {s : St} {w : World} (H : Rel ρ N s w) {b off n r base e : Nat} {ds : List SV} (h : readN s b off n = some ds) (hb : ρ b = some (r, base, e)) :
    ∃ l : List Value, (loadCells ⟨r, base + off, none⟩ n).run P w = .ok l.toArray w ∧ VRs ρ ds l := by
  unfold readN at h
  cases hr : readB (s.h.get b) with
  | none => rw [hr] at h; simp at h
  | some cs =>
    rw [hr] at h
    simp only at h
    obtain ⟨rc, ty, fz, ho, hcr⟩ := read_block H hr hb
    rcases hcr.read h with ⟨h1, h2⟩ | ⟨h1, h2⟩
    · exact ⟨_, run_loadCells ho h2, h1⟩
    · subst h1 h2; exact ⟨[], by simp [loadCells, loadCellsFrom], VRs.nil⟩

end Go.Sh
namespace Go.Sh
variable [Opq]
open Go.RowKit (Below)
variable {I : Rho → World → Prop}

/-! ## operands -/
def EnvR (ρ : Rho) (env : En) (a : Act) : Prop := ∀ t, env.get t ≠ .bad → ∃ v, a.tmps[t]? = some v ∧ VR ρ (env.get t) v
def Glob (G : Nat) (ρ : Rho) : Prop := ∀ g, g < G → ∃ e, ρ g = some (g, 0, e)
theorem Glob.mono {G : Nat} {ρ ρ' : Rho} (h : ρ.le ρ') (hg : Glob G ρ) : Glob G ρ' := fun g k => let ⟨e, he⟩ := hg g k; ⟨e, h _ _ he⟩
theorem EnvR.mono {ρ ρ' : Rho} (h : ρ.le ρ') {env : En} {a : Act} (he : EnvR ρ env a) : EnvR ρ' env a := fun t ht => let ⟨v, h1, h2⟩ := he t ht; ⟨v, h1, VR.mono h _ _ h2⟩

theorem isBad_false {x : SV} (h : isBad x = false) : x ≠ .bad := fun e => by rw [e] at h; simp [isBad] at h
theorem isBad_of_ne {x : SV} (h : x ≠ .bad) : isBad x = false := by cases x <;> first | rfl | exact absurd rfl h
theorem ofV1_sound (ρ : Rho) (v : Value) (h : ofV1 v ≠ .bad) : VR ρ (ofV1 v) v := by
  cases v with
  | bool b => simp [ofV1, VR]
  | int k n => simp [ofV1, VR]
  | float k n => simp [ofV1, VR]
  | string s => simp only [ofV1, VR]; exact ⟨s, rfl, rfl, rfl⟩
  | pointer a => cases a <;> simp [ofV1, VR] at h ⊢
  | slice a l c =>
    cases a with
    | none => cases l <;> cases c <;> simp [ofV1, VR] at h ⊢
    | some a => simp [ofV1] at h
  | map r => cases r <;> simp [ofV1, VR] at h ⊢
  | nilFunc => simp [ofV1, VR]
  | nilIface => simp [ofV1, VR]
  | func f a c =>
    simp only [ofV1] at h ⊢
    cases hc : (a.isEmpty && c.isEmpty) with
    | false => rw [hc] at h; simp at h
    | true =>
      rw [cond_true]
      rw [Bool.and_eq_true] at hc
      have h1 : a = #[] := by simpa using hc.1
      have h2 : c = #[] := by simpa using hc.2
      subst h1 h2
      simp only [VR, VRs]
      exact ⟨[], [], rfl, rfl, rfl⟩
  | _ => simp [ofV1] at h
theorem map_ofV1_sound (ρ : Rho) : ∀ (l : List Value), anyBad (l.map ofV1) = false → VRs ρ (l.map ofV1) l
  | [], _ => VRs.nil
  | v :: vs, h => by
    simp only [List.map_cons, anyBad] at h
    cases hb : isBad (ofV1 v) with
    | true => rw [hb] at h; simp at h
    | false =>
      rw [hb, cond_false] at h
      exact VRs.cons (ofV1_sound ρ v (isBad_false hb)) (map_ofV1_sound ρ vs h)
theorem aggV_ne {l : List SV} (h : aggV l ≠ .bad) : anyBad l = false ∧ aggV l = .agg l := by
  unfold aggV at h ⊢
  cases hb : anyBad l with
  | true => rw [hb] at h; simp at h
  | false => simp
theorem ofV_sound (ρ : Rho) (v : Value) (h : ofV v ≠ .bad) : VR ρ (ofV v) v := by
  cases v with
  | agg cs =>
    simp only [ofV] at h ⊢
    obtain ⟨h1, h2⟩ := aggV_ne h
    rw [h2]
    simp only [VR]
    exact ⟨cs.toList, map_ofV1_sound ρ _ h1, by simp⟩
  | _ => simp only [ofV] at h ⊢; exact ofV1_sound ρ _ h
theorem anyBad_mem : ∀ {l : List SV}, anyBad l = false → ∀ x ∈ l, x ≠ .bad
  | [], _, x, hx => by simp at hx
  | y :: ys, h, x, hx => by
    simp only [anyBad] at h
    cases hb : isBad y with
    | true => rw [hb] at h; simp at h
    | false =>
      rw [hb, cond_false] at h
      rcases List.mem_cons.1 hx with rfl | hx
      · exact isBad_false hb
      · exact anyBad_mem h x hx

/-- what is known of an operand -/
def OR (ρ : Rho) (env : En) (re : Operand → Value) (x : Operand) : Prop := evO x env ≠ .bad → VR ρ (evO x env) (re x)
def ORs (ρ : Rho) (env : En) (re : Operand → Value) (xs : List Operand) : Prop := ∀ x ∈ xs, OR ρ env re x
theorem ORs.vrs {ρ : Rho} {env : En} {re : Operand → Value} : ∀ {xs : List Operand}, ORs ρ env re xs → anyBad (evOs xs env) = false → VRs ρ (evOs xs env) (xs.map re)
  | [], _, _ => VRs.nil
  | x :: xs, h, hb => by
    simp only [evOs, List.map_cons, anyBad] at hb
    cases hx : isBad (evO x env) with
    | true => rw [hx] at hb; simp at hb
    | false =>
      rw [hx, cond_false] at hb
      exact VRs.cons (h x (by simp) (isBad_false hx)) (ORs.vrs (fun y hy => h y (by simp [hy])) hb)
theorem OR.eval {ρ : Rho} {env : En} {a : Act} {G : Nat} (hE : EnvR ρ env a) (hG : Glob G ρ) (x : Operand) (hx : ∀ g, x = .global g → g < G) : OR ρ env a.eval x := fun h => by
  cases x with
  | tmp t =>
    obtain ⟨v, h1, h2⟩ := hE t h
    have he : a.eval (.tmp t) = v := by simp [Act.eval, h1]
    rw [he]; exact h2
  | const v => exact ofV_sound ρ v h
  | global g =>
    obtain ⟨e, he⟩ := hG g (hx g rfl)
    simp only [evO, VR]
    exact ⟨g, 0, e, he, rfl⟩
  | func f => simp only [evO, VR, VRs]; exact ⟨[], [], rfl, rfl, rfl⟩

/-! ## the outcome of an operation -/
section
variable (P : Program) (ρ : Rho) (N : Bound I) (s : St) (w : World) (k0 : Prop)
def RV (res : Result Next) (x : SV) (s' : St) : Prop :=
  ∃ ρ' v w', res = .ok (.value v) w' ∧ VR ρ' x v ∧ Rel ρ' N s' w' ∧ Ext ρ s ρ' s' ∧ Below N w w' ∧ (k0 → s'.nx = s.nx → s' = s ∧ w' = w ∧ ρ' = ρ)
def RR (res : Result Next) : R → Prop
  | .v x s' => RV ρ N s w k0 res x s'
  | .skip s' => ∃ ρ' w', res = .ok .skip w' ∧ Rel ρ' N s' w' ∧ Ext ρ s ρ' s' ∧ Below N w w'
  | .call f args s' => s' = s ∧ ∃ args' : List Value, VRs ρ args args' ∧ res = (callFunc f args'.toArray).run P w
  | .rnd b args s' => s' = s ∧ ∃ (args' : List Value) (r base e : Nat), ρ b = some (r, base, e) ∧ VRs ρ args args' ∧ res = (Instr.yield r args'.toArray).run P w
  | .dfr f args s' => s' = s ∧ ∃ (a' c' : List Value), VRs ρ args (a' ++ c') ∧ res = .ok (.defer { target := .fn (.func f) c'.toArray, args := a'.toArray }) w
  | .rcv s' => s' = s ∧ res = .ok .recover w
  | .pan x s' => s' = s ∧ ∃ v, res = .halt (.panic v) w ∧ VR ρ x v
  | .fork x s' y t' => RV ρ N s w False res x s' ∨ RV ρ N s w False res y t'
  | .bad _ => True
end
variable {P : Program} {ρ : Rho} {N : Bound I} {s : St} {w : World} {k0 : Prop}
theorem RV.pure (H : Rel ρ N s w) {res : Result Next} {x : SV} {v : Value} (h : res = .ok (.value v) w) (hv : VR ρ x v) : RV ρ N s w k0 res x s :=
  ⟨ρ, v, w, h, hv, H, Ext.refl ρ s, Below.refl N w, fun _ _ => ⟨rfl, rfl, rfl⟩⟩
theorem RR.rv (H : Rel ρ N s w) {res : Result Next} {x : SV} {why : String} (h : x ≠ .bad → ∃ v, res = .ok (.value v) w ∧ VR ρ x v) : RR P ρ N s w k0 res (rv x s why) := by
  unfold Sh.rv
  cases hb : isBad x with
  | true => exact trivial
  | false => obtain ⟨v, h1, h2⟩ := h (isBad_false hb); exact RV.pure H h1 h2

/-- the model's run of an operation that gives a value -/
theorem run_v {m : Sem Value} {v : Value} {w' : World} (h : m.run P w = .ok v w') : (do pure (Next.value (← m)) : Sem Next).run P w = .ok (.value v) w' := by
  simp [h]
theorem run_u {m : Sem Unit} {w' : World} (h : m.run P w = .ok () w') : (do m; pure Next.skip : Sem Next).run P w = .ok .skip w' := by
  simp [h]
theorem run_v_halt {m : Sem Value} {h : Halt} {w' : World} (hm : m.run P w = .halt h w') : (do pure (Next.value (← m)) : Sem Next).run P w = .halt h w' := by
  simp [hm]

/-! ## operations that touch no memory -/
variable {env : En} {re : Operand → Value} {d : Option Tmp} {ty : TypeId} {pos : String} {af : Array Edge} {gd : Option (Nat × Bool)}
theorem move_sound (H : Rel ρ N s w) {x : Operand} (hx : OR ρ env re x) : RR P ρ N s w k0 ((execOp re ⟨d, .move x, ty, pos, af, gd⟩).run P w) (exMove x P env s) :=
  RR.rv H fun h => ⟨re x, rfl, hx h⟩
theorem assign_sound (H : Rel ρ N s w) {x : Operand} (hx : OR ρ env re x) : RR P ρ N s w k0 ((execOp re ⟨d, .assign x, ty, pos, af, gd⟩).run P w) (exMove x P env s) :=
  RR.rv H fun h => ⟨re x, rfl, hx h⟩
theorem pick_sound (H : Rel ρ N s w) {c a b : Operand} (hc : OR ρ env re c) (ha : OR ρ env re a) (hb : OR ρ env re b) :
    RR P ρ N s w k0 ((execOp re ⟨d, .pick c a b, ty, pos, af, gd⟩).run P w) (exPick c a b P env s) := by
  unfold exPick
  split
  · rename_i t ht
    have hc' := hc (by rw [ht]; simp)
    rw [ht] at hc'
    simp only [VR] at hc'
    refine RR.rv H fun h => ?_
    simp only [execOp, hc']
    cases t with
    | true => exact ⟨re a, by simp [asBool], ha h⟩
    | false => exact ⟨re b, by simp [asBool], hb h⟩
  · exact trivial
theorem nilCheck_sound (H : Rel ρ N s w) {x : Operand} (hx : OR ρ env re x) : RR P ρ N s w k0 ((execOp re ⟨d, .nilCheck x, ty, pos, af, gd⟩).run P w) (exNil x P env s) := by
  unfold exNil
  split
  · rename_i b off hb
    have h := hx (by rw [hb]; simp)
    rw [hb] at h
    have h0 := h
    simp only [VR] at h
    obtain ⟨r, base, e, hr, hv⟩ := h
    exact RV.pure H (v := re x) (by simp only [execOp, hv]; rfl) h0
  · rename_i f a b hb
    have h := hx (by rw [hb]; simp)
    rw [hb] at h
    have h0 := h
    simp only [VR] at h
    obtain ⟨a', c', _, _, hv⟩ := h
    exact RV.pure H (v := re x) (by simp only [execOp, hv]; rfl) h0
  · rename_i t v hb
    have h := hx (by rw [hb]; simp)
    rw [hb] at h
    have h0 := h
    simp only [VR] at h
    obtain ⟨y, _, hv⟩ := h
    exact RV.pure H (v := re x) (by simp only [execOp, hv]; rfl) h0
  · exact trivial
theorem iface_sound (H : Rel ρ N s w) {t : TypeId} {x : Operand} (hx : OR ρ env re x) : RR P ρ N s w k0 ((execOp re ⟨d, .makeInterface t x, ty, pos, af, gd⟩).run P w) (exIface t x P env s) := by
  unfold exIface
  split
  · exact trivial
  · rename_i u hni hu
    split
    · exact trivial
    · rename_i v hv
      have h := hx (fun e => hv e)
      refine RV.pure H (v := .iface t (re x)) ?_ (by simp only [VR]; exact ⟨_, h, rfl⟩)
      simp only [execOp, Instr.makeInterface]
      apply run_v
      simp only [Sem.run_bind, run_underlying hu, Result.andThen_ok]
      cases u <;> first | rfl | (rename_i ms; exact absurd hu (hni ms))
  · exact trivial
theorem func_sound (H : Rel ρ N s w) {f : Fn} {first cap : Array Operand} (h1 : ORs ρ env re first.toList) (h2 : ORs ρ env re cap.toList) :
    RR P ρ N s w k0 ((execOp re ⟨d, .makeFunc f first cap, ty, pos, af, gd⟩).run P w) (exFunc f first cap P env s) := by
  unfold exFunc
  cases hb : (anyBad (evOs first.toList env) || anyBad (evOs cap.toList env)) with
  | true => exact trivial
  | false =>
    rw [Bool.or_eq_false_iff] at hb
    refine RV.pure H (v := .func f (first.map re) (cap.map re)) (by simp [execOp, Instr.makeFunc]) ?_
    simp only [VR]
    exact ⟨_, _, h1.vrs hb.1, h2.vrs hb.2, by congr 1 <;> simp [← Array.toList_map]⟩
theorem unOp_sound (H : Rel ρ N s w) {op : UnOp} {t : TypeId} {x : Operand} (hx : OR ρ env re x) : RR P ρ N s w k0 ((execOp re ⟨d, .unOp op t x, ty, pos, af, gd⟩).run P w) (exUn op t x P env s) := by
  unfold exUn
  refine RR.rv H fun h => ?_
  have hx' : evO x env ≠ .bad := fun e => h (by rw [e]; cases op <;> rfl)
  have hv := hx hx'
  cases op <;> cases he : evO x env <;> rw [he] at h <;> simp [unV] at h <;> rw [he] at hv <;> simp only [VR] at hv <;> simp only [execOp, hv, unV]
  · rename_i k n
    refine ⟨.int k (k.wrap (0 - n)), run_v rfl, ?_⟩
    simp only [VR, wrapF_eq]
    congr 2
    show 0 - n = -n
    omega
  · rename_i b; exact ⟨.bool (!b), run_v rfl, by simp [VR]⟩
theorem nthV_some {l : List SV} : ∀ {n : Nat}, nthV n l ≠ .bad → l[n]? = some (nthV n l) := by
  induction l with
  | nil => intro n h; cases n <;> simp [nthV] at h
  | cons x xs ih =>
    intro n h
    cases n with
    | zero => simp [nthV]
    | succ n => simp only [nthV] at h ⊢; simpa using ih h
theorem extract_sound (H : Rel ρ N s w) {t : Operand} {i : Nat} (hx : OR ρ env re t) : RR P ρ N s w k0 ((execOp re ⟨d, .extract t i, ty, pos, af, gd⟩).run P w) (exExtract t i P env s) := by
  unfold exExtract
  split
  · rename_i vs hv
    have h := hx (by rw [hv]; simp)
    rw [hv] at h
    simp only [VR] at h
    obtain ⟨l, hl, hre⟩ := h
    refine RR.rv H fun hb => ?_
    obtain ⟨v, h1, h2⟩ := hl.get _ _ (nthV_some hb)
    refine ⟨v, ?_, h2⟩
    simp only [execOp, hre, Instr.extract]
    apply run_v
    simp [h1]
  · exact trivial
theorem panic_sound {x : Operand} (hx : OR ρ env re x) : RR P ρ N s w k0 ((execOp re ⟨d, .panic x, ty, pos, af, gd⟩).run P w) (exPanic x P env s) := by
  unfold exPanic
  split
  · rename_i t v hv
    have h := hx (by rw [hv]; simp)
    rw [hv] at h
    have h0 := h
    simp only [VR] at h
    obtain ⟨y, _, hre⟩ := h
    refine ⟨rfl, re x, ?_, h0⟩
    simp only [execOp, hre, Instr.panic]
    exact run_v_halt rfl
  · exact trivial
theorem fieldAddr_sound (H : Rel ρ N s w) {t : TypeId} {x : Operand} {f : Nat} (hx : OR ρ env re x) :
    RR P ρ N s w k0 ((execOp re ⟨d, .fieldAddr t x f, ty, pos, af, gd⟩).run P w) (exFieldAddr t x f P env s) := by
  unfold exFieldAddr
  split
  · rename_i fs hu
    split
    · rename_i o sz b off hp hv
      have h := hx (by rw [hv]; simp)
      rw [hv] at h
      simp only [VR] at h
      obtain ⟨r, base, e, hb, hre⟩ := h
      unfold placeF at hp
      split at hp
      · rename_i fd hf
        split at hp
        · rename_i n hn
          cases hp
          refine RV.pure H (v := .pointer (some ⟨r, base + (off + fd.offset), none⟩)) ?_ (by simp only [VR]; exact ⟨r, base, e, hb, rfl⟩)
          simp only [execOp, hre, Instr.fieldAt]
          apply run_v
          have hi : ∃ i, P.info? fd.type = some i ∧ i.size = sz + 1 := by
            unfold size? at hn
            split at hn
            · rename_i i hi; exact ⟨i, hi, by simpa using hn⟩
            · cases hn
          obtain ⟨i, hi, hs⟩ := hi
          simp [run_underlying hu, hf, Instr.sureAddr, fieldPlace, sizeOf, typeInfo, hi, hs, add_addr, Nat.add_assoc]
        · cases hp
      · cases hp
    · exact trivial
  · exact trivial

end Go.Sh
namespace Go.Sh
variable [Opq]
open Go.RowKit (Below)
variable {I : Rho → World → Prop}

variable {P : Program} {ρ : Rho} {N : Bound I} {s : St} {w : World} {k0 : Prop}
variable {env : En} {re : Operand → Value} {d : Option Tmp} {ty : TypeId} {pos : String} {af : Array Edge} {gd : Option (Nat × Bool)}

/-! ## types -/
theorem size?_some {t : TypeId} {n : Nat} (h : size? P t = some n) : ∃ i, P.info? t = some i ∧ i.size = n := by
  unfold size? at h
  split at h
  · rename_i i hi; exact ⟨i, hi, by simpa using h⟩
  · cases h
theorem run_sizeOf {t : TypeId} {n : Nat} (h : size? P t = some n) (w : World) : (sizeOf t).run P w = .ok n w := by
  obtain ⟨i, hi, hs⟩ := size?_some h
  simp [sizeOf, typeInfo, hi, hs]
theorem run_isAgg {t : TypeId} {dd : TypeDesc} (h : P.underlying t = some dd) (w : World) : (isAgg t).run P w = .ok (isAggD dd) w := by
  simp only [isAgg, Sem.run_bind, run_underlying h, Result.andThen_ok]
  cases dd <;> rfl
theorem zeroS_some {t : TypeId} (h : zeroS P t ≠ .bad) : ∃ i z, P.info? t = some i ∧ i.zero = some z ∧ zeroS P t = ofV z := by
  unfold zeroS at h ⊢
  cases hi : P.info? t with
  | none => rw [hi] at h; simp at h
  | some i =>
    rw [hi] at h
    simp only at h ⊢
    cases hz : i.zero with
    | none => rw [hz] at h; simp at h
    | some z => exact ⟨i, z, rfl, hz, by simp⟩
theorem zeroS_sound {t : TypeId} (h : zeroS P t ≠ .bad) : ∃ z, (∀ w : World, (zeroValue t).run P w = .ok z w) ∧ ∀ ρ, VR ρ (zeroS P t) z := by
  obtain ⟨i, z, hi, hz, he⟩ := zeroS_some h
  refine ⟨z, fun w => by simp [zeroValue, typeInfo, hi, hz], fun ρ => ?_⟩
  rw [he] at h ⊢
  exact ofV_sound ρ z h
theorem ofV1_notup (z : Value) : (∀ l, ofV1 z ≠ .tup l) ∧ ofV1 z ≠ .junk := by
  cases z with
  | pointer a => cases a <;> simp [ofV1]
  | slice a l c => cases a <;> cases l <;> cases c <;> simp [ofV1]
  | map r => cases r <;> simp [ofV1]
  | func f a c => simp only [ofV1]; cases (a.isEmpty && c.isEmpty) <;> simp
  | _ => simp [ofV1]
theorem ofV_notup (z : Value) : (∀ l, ofV z ≠ .tup l) ∧ ofV z ≠ .junk := by
  cases z with
  | agg cs => simp only [ofV, aggV]; cases anyBad (cs.toList.map ofV1) <;> simp
  | _ => simp only [ofV]; exact ofV1_notup _
theorem zeroCs_some {t : TypeId} {cs : List SV} (h : zeroCs P t = some cs) : ∃ i z, P.info? t = some i ∧ i.zero = some z ∧ (∀ w : World, (zeroValue t).run P w = .ok z w) ∧ ∀ ρ, VRs ρ cs z.cells.toList := by
  unfold zeroCs at h
  split at h
  · cases h
  · rename_i v hv
    obtain ⟨i, z, hi, hz, he⟩ := zeroS_some (P := P) (t := t) (fun e => hv e)
    dsimp only at h
    cases hb : anyBad (cellsOf (zeroS P t)) with
    | true => rw [hb] at h; simp at h
    | false =>
      rw [hb] at h
      simp at h
      subst h
      refine ⟨i, z, hi, hz, fun w => by simp [zeroValue, typeInfo, hi, hz], fun ρ => ?_⟩
      have hs := ofV_sound ρ z (by rw [← he]; exact fun e => hv e)
      rw [he]
      exact VR.cells (ofV_notup z).2 (ofV_notup z).1 hs

/-! ## loads and stores -/
theorem headC_some {l : List SV} (h : headC l ≠ .bad) : l[0]? = some (headC l) := by cases l <;> simp [headC] at h ⊢
theorem read1_sound (H : Rel ρ N s w) {b off r base e : Nat} (hb : ρ b = some (r, base, e)) (h : read1 s b off ≠ .bad) : ∃ v, w.cell? ⟨r, base + off, none⟩ = some v ∧ VR ρ (read1 s b off) v := by
  unfold read1 at h ⊢
  cases hr : readB (s.h.get b) with
  | none => rw [hr] at h; simp at h
  | some cs =>
    rw [hr] at h
    simp only at h ⊢
    obtain ⟨rc, ty, fz, ho, hcr⟩ := read_block H hr hb
    have h0 := headC_some h
    rw [dropN_eq] at h0 h
    rw [dropN_eq, cell_at ho]
    have h1 : cs[off]? = some (headC (List.drop off cs)) := by rw [← h0]; simp
    exact hcr _ _ h1
theorem optAgg_some {o : Option (List SV)} (h : optAgg o ≠ .bad) : ∃ l, o = some l ∧ optAgg o = .agg l := by cases o <;> simp [optAgg] at h ⊢
theorem loadS_sound (H : Rel ρ N s w) {t : TypeId} {x : SV} {v : Value} (hx : x ≠ .bad → VR ρ x v) (h : loadS P s t x ≠ .bad) : ∃ u, (Instr.loadAt t v).run P w = .ok u w ∧ VR ρ (loadS P s t x) u := by
  unfold loadS at h ⊢
  split at h
  · rename_i b off
    have hv := hx (by simp)
    simp only [VR] at hv
    obtain ⟨r, base, e, hb, rfl⟩ := hv
    split at h
    · rename_i dd hd
      have hrun : (Instr.loadAt t (.pointer (some ⟨r, base + off, none⟩))).run P w = (loadVar t ⟨r, base + off, none⟩).run P w := by simp [Instr.loadAt, Instr.sureAddr]
      rw [hrun]
      simp only [loadVar, Sem.run_bind, run_isAgg hd, Result.andThen_ok]
      cases ha : isAggD dd with
      | true =>
        rw [ha, cond_true] at h
        rw [cond_true]
        split at h
        · rename_i n hn
          obtain ⟨l, hl1, hl2⟩ := optAgg_some h
          obtain ⟨vs, h1, h2⟩ := readN_sound (P := P) H hl1 hb
          refine ⟨.agg vs.toArray, ?_, ?_⟩
          · simp [run_sizeOf hn, h1]
          · rw [hl2]; simp only [VR]; exact ⟨vs, h2, rfl⟩
        · exact absurd rfl h
      | false =>
        rw [ha, cond_false] at h
        rw [cond_false]
        obtain ⟨u, h1, h2⟩ := read1_sound H hb h
        refine ⟨u, ?_, h2⟩
        simp [h1]
    · exact absurd rfl h
  · exact absurd rfl h
theorem load_sound (H : Rel ρ N s w) {t : TypeId} {a : Operand} (ha : OR ρ env re a) : RR P ρ N s w k0 ((execOp re ⟨d, .load t a, ty, pos, af, gd⟩).run P w) (exLoad t a P env s) := by
  unfold exLoad
  refine RR.rv H fun h => ?_
  obtain ⟨u, h1, h2⟩ := loadS_sound H ha h
  exact ⟨u, by simp only [execOp]; exact run_v h1, h2⟩
theorem VR.cells' {x : SV} {v : Value} (ha : allOne (cellsOf x) = true) (h : VR ρ x v) : VRs ρ (cellsOf x) v.cells.toList := by
  refine VR.cells (fun e => ?_) (fun l e => ?_) h
  · subst e; simp [cellsOf, allOne, oneC] at ha
  · subst e; simp [cellsOf, allOne, oneC] at ha
theorem writeN_allOne {b off : Nat} {xs : List SV} {s' : St} (h : writeN s b off xs = some s') : allOne xs = true := by
  unfold writeN at h
  cases ha : allOne xs with
  | true => rfl
  | false => rw [ha] at h; simp at h
theorem store_sound (H : Rel ρ N s w) {t : TypeId} {a x : Operand} (ha : OR ρ env re a) (hx : OR ρ env re x) :
    RR P ρ N s w k0 ((execOp re ⟨d, .store t a x, ty, pos, af, gd⟩).run P w) (exStore t a x P env s) := by
  unfold exStore
  split
  · rename_i b off n hv hn
    have h := ha (by rw [hv]; simp)
    rw [hv] at h
    simp only [VR] at h
    obtain ⟨r, base, e, hb, hre⟩ := h
    cases hl : Nat.beq (cellsOf (evO x env)).length n with
    | false => exact trivial
    | true =>
      rw [cond_true]
      split
      · rename_i s' hw
        have hone := writeN_allOne hw
        have hxb : evO x env ≠ .bad := fun e => by rw [e] at hone; simp [cellsOf, allOne, oneC] at hone
        have hxs := VR.cells' hone (hx hxb)
        obtain ⟨w', h1, h2, h3, h4⟩ := write_sound (P := P) H hw hb hxs
        refine ⟨ρ, w', ?_, h2, h3, h4⟩
        simp only [execOp]
        apply run_u
        have hsz : (re x).cells.size = n := by
          have := hxs.len
          simp only [Array.length_toList] at this
          rw [this]; exact Nat.eq_of_beq_eq_true hl
        simp [Instr.storeAt, hre, Instr.sureAddr, storeVar, run_sizeOf hn, hsz, h1]
      · exact trivial
  · exact trivial

/-! ## allocations -/
def realOf : Mk → Nat → Value
  | .ptr, r => .pointer (some ⟨r, 0, none⟩)
  | .slc l c, r => .slice (some ⟨r, 0, none⟩) l c
  | .mp, r => .map (some r)
theorem valOf_sound {ρ : Rho} {mk : Mk} {b r e : Nat} (h : ρ b = some (r, 0, e)) : VR ρ (valOf mk b) (realOf mk r) := by
  cases mk <;> simp only [valOf, realOf, VR]
  · exact ⟨r, 0, e, h, rfl⟩
  · exact ⟨r, 0, e, h, rfl⟩
  · exact ⟨r, 0, e, h, rfl⟩
def AllocOK (ρ : Rho) (w : World) (res : Result Next) (mk : Mk) (blk : SBlk) : Prop :=
  ∃ o e, res = .ok (.value (realOf mk w.heap.size)) (newB w o) ∧ BR ρ 0 e blk (some o)
theorem newR_sound (H : Rel ρ N s w) {res : Result Next} {m : Option (Mk × SBlk)} (h : ∀ mk blk, m = some (mk, blk) → AllocOK ρ w res mk blk) : RR P ρ N s w k0 res (newR m s) := by
  unfold newR
  rcases m with _ | ⟨mk, blk⟩
  · exact trivial
  · obtain ⟨o, e, h1, h2⟩ := h mk blk rfl
    refine ⟨ρ.add s.nx (w.heap.size, 0, e), _, _, h1, valOf_sound (Rho.add_self _ _ _), H.new h2, Ext.new H _ _, Below.newB H.size, fun _ hn => ?_⟩
    exact absurd hn (by show Nat.succ s.nx ≠ s.nx; omega)
theorem newRow_run (w : World) (t : TypeId) (cs : Array Value) : (newRow t cs).run P w = .ok ⟨w.heap.size, 0, none⟩ (newB w (.cells cs t (0, 0))) := by
  simp [newRow, newB]
theorem CR.of_vrs {xs : List SV} {cs : Array Value} (h : VRs ρ xs cs.toList) : CR ρ xs cs 0 := fun i x hx => by
  obtain ⟨v, h1, h2⟩ := h.get i x hx
  exact ⟨v, by simpa using h1, h2⟩
theorem BR.fresh {t : Nat} {xs : List SV} {cs : Array Value} (h : VRs ρ xs cs.toList) : BR ρ 0 cs.size (.cells t xs) (some (.cells cs t (0, 0))) :=
  ⟨cs, rfl, rfl, by have := h.len; simp at this; omega, rfl, CR.of_vrs h⟩
theorem alloc_ok {t : TypeId} {mk : Mk} {blk : SBlk} (h : mkAlloc t P env = some (mk, blk)) : AllocOK ρ w ((execOp re ⟨d, .alloc t, ty, pos, af, gd⟩).run P w) mk blk := by
  unfold mkAlloc at h
  split at h
  · rename_i cs hz
    cases h
    obtain ⟨i, z, hi, hz', hr, hv⟩ := zeroCs_some hz
    refine ⟨_, _, ?_, BR.fresh (hv ρ)⟩
    simp only [execOp]
    apply run_v
    simp [Instr.alloc, hr, newVar, newRow_run, realOf]
  · cases h
theorem box_ok {t : TypeId} {x : Operand} {mk : Mk} {blk : SBlk} (hx : OR ρ env re x) (h : mkBox t x P env = some (mk, blk)) : AllocOK ρ w ((execOp re ⟨d, .box t x, ty, pos, af, gd⟩).run P w) mk blk := by
  unfold mkBox at h
  split at h
  · cases h
  · rename_i v hv
    cases ha : allOne (cellsOf (evO x env)) with
    | false => rw [ha] at h; simp at h
    | true =>
      rw [ha] at h
      simp at h
      obtain ⟨rfl, rfl⟩ := h
      have hs := VR.cells' ha (hx (fun e => hv e))
      refine ⟨_, _, ?_, BR.fresh hs⟩
      simp only [execOp]
      apply run_v
      simp [Instr.box, newVar, newRow_run, realOf]

/-! ## parts -/
/-- the model's filling of cells -/
theorem foldl_set (vs : List Value) : ∀ (k : Nat) (off : Nat) (cs : Array Value), ((vs.zipIdx k).foldl (fun cs (c, j) => cs.setIfInBounds (off + j) c) cs) = setRow cs (off + k) vs := by
  induction vs with
  | nil => intro k off cs; rfl
  | cons v vs ih =>
    intro k off cs
    simp only [List.zipIdx_cons, List.foldl_cons, setRow]
    rw [ih (k + 1) off]
    rfl
theorem putAt_vrs {ρ : Rho} {off : Nat} {xs cs cells : List SV} {vs : List Value} {rc : Array Value} (hput : putAt off xs cs = some cells) (hv : VRs ρ xs vs) (hc : VRs ρ cs rc.toList) :
    VRs ρ cells (setRow rc off vs).toList ∧ off + vs.length ≤ rc.size := by
  obtain ⟨p1, p2, p3⟩ := putAt_some _ _ _ _ hput
  have hl := hv.len
  have hcl := hc.len
  simp only [Array.length_toList] at hcl
  refine ⟨VRs.of_get (by simp [setRow_size]; omega) fun i x v hx hvv => ?_, by omega⟩
  rw [p3 i] at hx
  rw [Array.getElem?_toList, setRow_get vs rc off (by omega)] at hvv
  by_cases hi : off ≤ i ∧ i < off + xs.length
  · rw [if_pos hi] at hx
    rw [if_pos (by omega)] at hvv
    obtain ⟨u, h1, h2⟩ := hv.get _ _ hx
    rw [h1] at hvv; cases hvv; exact h2
  · rw [if_neg hi] at hx
    rw [if_neg (by omega)] at hvv
    obtain ⟨u, h1, h2⟩ := hc.get _ _ hx
    rw [Array.getElem?_toList, hvv] at h1; cases h1; exact h2
theorem fill_sound {ρ : Rho} (place : Nat → Option (Nat × Nat)) : ∀ (ps : List (Nat × SV)) (qs : List (Nat × Value)) (cs out : List SV) (rc : Array Value),
    fillS place ps cs = some out → ps.length = qs.length →
    (∀ i : Nat, ∀ p q, ps[i]? = some p → qs[i]? = some q → p.1 = q.1 ∧ (p.2 ≠ .bad → VR ρ p.2 q.2)) → VRs ρ cs rc.toList →
    ∃ out', Instr.fill place rc qs = some out' ∧ VRs ρ out out'.toList
  | [], qs, cs, out, rc, h, hl, _, hc => by
    have : qs = [] := List.eq_nil_of_length_eq_zero (by simpa using hl.symm)
    subst this
    simp only [fillS] at h
    cases h
    exact ⟨rc, rfl, hc⟩
  | (i, x) :: ps, [], cs, out, rc, h, hl, _, hc => by simp at hl
  | (i, x) :: ps, (j, v) :: qs, cs, out, rc, h, hl, hp, hc => by
    simp only [fillS] at h
    split at h
    · rename_i off size hpl
      cases hsz : Nat.beq (cellsOf x).length size with
      | false => rw [hsz] at h; simp at h
      | true =>
        rw [hsz, cond_true] at h
        cases hone : allOne (cellsOf x) with
        | false => rw [hone] at h; simp at h
        | true =>
          rw [hone, cond_true] at h
          split at h
          · rename_i cells hput
            have h0 := hp 0 (i, x) (j, v) rfl rfl
            obtain ⟨hij, hxv⟩ := h0
            simp only at hij hxv
            subst hij
            have hxs := VR.cells' hone (hxv (fun e => by subst e; simp [cellsOf, allOne, oneC] at hone))
            obtain ⟨h1, h2⟩ := putAt_vrs hput hxs hc
            have hlen := hxs.len
            simp only [Array.length_toList] at hlen h2
            have hs := Nat.eq_of_beq_eq_true hsz
            obtain ⟨out', h3, h4⟩ := fill_sound place ps qs cells out (setRow rc off v.cells.toList) h (by simpa using hl) (fun k p q h1 h2 => hp (k + 1) p q (by simpa using h1) (by simpa using h2)) h1
            refine ⟨out', ?_, h4⟩
            simp only [Instr.fill, hpl]
            rw [if_neg (by simp; omega)]
            rw [← h3]
            congr 1
            rw [← Array.foldl_toList, Array.toList_zipIdx]
            exact foldl_set v.cells.toList 0 off rc
          · cases h
    · cases h
theorem evParts_ok {parts : Array (Nat × Operand)} (h : ORs ρ env re (parts.toList.map (·.2))) :
    (evParts parts.toList env).length = (parts.map fun (i, x) => (i, re x)).toList.length ∧
    ∀ i : Nat, ∀ p q, (evParts parts.toList env)[i]? = some p → (parts.map fun (i, x) => (i, re x)).toList[i]? = some q → p.1 = q.1 ∧ (p.2 ≠ .bad → VR ρ p.2 q.2) := by
  refine ⟨by simp [evParts], fun i p q hp hq => ?_⟩
  simp only [evParts, List.getElem?_map, Array.toList_map] at hp hq
  cases hg : parts.toList[i]? with
  | none => rw [hg] at hp; simp at hp
  | some pr =>
    rw [hg] at hp hq
    simp at hp hq
    subst hp hq
    refine ⟨rfl, fun hb => ?_⟩
    exact h pr.2 (List.mem_map.2 ⟨pr, List.mem_of_getElem? hg, rfl⟩) hb
theorem placeF_eq {fs : Array Field} {places : Array (Nat × Nat)} (h : ∀ i : Nat, places[i]? = placeF P fs i) : (places[·]?) = placeF P fs := funext h
theorem mapM_sizes (w : World) : ∀ (fs : List Field), (∀ f ∈ fs, (size? P f.type).isSome = true) →
    (fs.mapM (m := Sem) fun f => do pure (f.offset, ← sizeOf f.type)).run P w = .ok (fs.map fun f => (f.offset, (size? P f.type).getD 0)) w
  | [], _ => by simp
  | f :: fs, h => by
    have h1 := h f (by simp)
    obtain ⟨n, hn⟩ := Option.isSome_iff_exists.1 h1
    simp only [List.mapM_cons, Sem.run_bind, run_sizeOf hn, Result.andThen_ok, Sem.run_pure, mapM_sizes w fs (fun g hg => h g (by simp [hg])), List.map_cons, hn, Option.getD_some]
theorem fldB_ok {fs : Array Field} (h : fldB P fs = true) : ∀ f ∈ fs.toList, (size? P f.type).isSome = true := fun f hf => by
  have := List.all_eq_true.1 h f hf
  unfold hasSize at this
  split at this
  · rename_i hs; rw [hs]; rfl
  · cases this
theorem run_places {fs : Array Field} (hF : ∀ f ∈ fs.toList, (size? P f.type).isSome = true) (w : World) :
    ∃ places : Array (Nat × Nat), (fs.mapM (m := Sem) fun f => do pure (f.offset, ← sizeOf f.type)).run P w = .ok places w ∧ (places[·]?) = placeF P fs := by
  refine ⟨(fs.toList.map fun f => (f.offset, (size? P f.type).getD 0)).toArray, ?_, ?_⟩
  · rw [Array.mapM_eq_mapM_toList, Sem.run_map, mapM_sizes w fs.toList hF]
    rfl
  · funext i
    simp only [placeF, List.getElem?_toArray, List.getElem?_map, Array.getElem?_toList]
    cases hf : fs[i]? with
    | none => rfl
    | some f =>
      have := hF f (by rw [← Array.getElem?_toList] at hf; exact List.mem_of_getElem? hf)
      obtain ⟨n, hn⟩ := Option.isSome_iff_exists.1 this
      simp [hn]
theorem build_sound (H : Rel ρ N s w) {t : TypeId} {parts : Array (Nat × Operand)} (h : ORs ρ env re (parts.toList.map (·.2))) :
    RR P ρ N s w k0 ((execOp re ⟨d, .build t parts, ty, pos, af, gd⟩).run P w) (exBuild t parts P env s) := by
  unfold exBuild
  obtain ⟨hlen, hps⟩ := evParts_ok h
  split
  · rename_i fs z hu hz
    cases hfl : fldB P fs with
    | false => exact trivial
    | true =>
    rw [cond_true]
    unfold aggOk
    split
    · rename_i l hf
      obtain ⟨i, zv, hi, hz', hr, hv⟩ := zeroCs_some hz
      obtain ⟨out', h1, h2⟩ := fill_sound _ _ _ _ _ _ hf hlen hps (hv ρ)
      refine RV.pure H (v := .agg out') ?_ (by simp only [VR]; exact ⟨_, h2, by simp⟩)
      simp only [execOp]
      apply run_v
      obtain ⟨places, h3, h4⟩ := run_places (fldB_ok hfl) w
      simp only [Instr.build, Sem.run_bind, hr, Result.andThen_ok, run_underlying hu, h3, h4, h1]
      rfl
    · exact trivial
  · rename_i n e z hu hz
    split
    · rename_i sz hsz
      unfold aggOk
      split
      · rename_i l hf
        obtain ⟨i, zv, hi, hz', hr, hv⟩ := zeroCs_some hz
        obtain ⟨out', h1, h2⟩ := fill_sound _ _ _ _ _ _ hf hlen hps (hv ρ)
        refine RV.pure H (v := .agg out') ?_ (by simp only [VR]; exact ⟨_, h2, by simp⟩)
        simp only [execOp]
        apply run_v
        have h1' : Instr.fill (fun i => some (i * sz, sz)) zv.cells (parts.map fun (i, x) => (i, re x)).toList = some out' := h1
        simp only [Instr.build, Sem.run_bind, hr, Result.andThen_ok, run_underlying hu, run_sizeOf hsz, h1']
        rfl
      · exact trivial
    · exact trivial
  · exact trivial

/-! ## slices that are built -/
theorem repl_len (z : List SV) : ∀ n, (repl z n).length = n * z.length
  | 0 => by simp [repl]
  | n + 1 => by simp [repl, repl_len z n, Nat.succ_mul]; omega
theorem repl_get (z : List SV) (hk : 0 < z.length) : ∀ (n i : Nat), i < n * z.length → (repl z n)[i]? = z[i % z.length]?
  | 0, i, h => by simp at h
  | n + 1, i, h => by
    simp only [repl]
    by_cases hi : i < z.length
    · rw [List.getElem?_append_left hi, Nat.mod_eq_of_lt hi]
    · rw [List.getElem?_append_right (by omega), repl_get z hk n (i - z.length) (by rw [Nat.succ_mul] at h; omega)]
      rw [← Nat.mod_eq_sub_mod (by omega)]
theorem repl_vrs {ρ : Rho} {z : List SV} {zc : Array Value} (h : VRs ρ z zc.toList) (n : Nat) (hz : 0 < z.length) :
    VRs ρ (repl z n) ((Array.range (n * z.length)).map (zc[· % zc.size]!)).toList := by
  have hl := h.len
  simp only [Array.length_toList] at hl
  refine VRs.of_get (by simp [repl_len]) fun i x v hx hv => ?_
  by_cases hi : i < n * z.length
  · rw [repl_get z hz n i hi] at hx
    obtain ⟨u, h1, h2⟩ := h.get _ _ hx
    simp only [Array.getElem?_toList, Array.getElem?_map] at hv
    rw [Array.getElem?_eq_getElem (by simpa using hi)] at hv
    simp at hv
    subst hv
    rw [Array.getElem?_toList] at h1
    rw [hl]
    have : zc[i % z.length]! = u := by simp [getElem!_def, h1]
    rw [this]
    exact h2
  · rw [List.getElem?_eq_none (by rw [repl_len]; omega)] at hx; cases hx
theorem buildSlice_ok {t : TypeId} {len : Nat} {parts : Array (Nat × Operand)} {mk : Mk} {blk : SBlk} (h : ORs ρ env re (parts.toList.map (·.2))) (hm : mkBuildSlice t len parts P env = some (mk, blk)) :
    AllocOK ρ w ((execOp re ⟨d, .buildSlice t len parts, ty, pos, af, gd⟩).run P w) mk blk := by
  unfold mkBuildSlice at hm
  obtain ⟨hlen, hps⟩ := evParts_ok h
  split at hm
  · rename_i e hu
    split at hm
    · rename_i sz z hsz hz
      cases hc : (Nat.ble (Nat.mul len (Nat.succ sz)) 1048576 && Nat.beq z.length (Nat.succ sz)) with
      | false => rw [hc] at hm; simp at hm
      | true =>
        rw [hc, cond_true] at hm
        rw [Bool.and_eq_true] at hc
        have hc1 : len * (sz + 1) ≤ 1048576 := Nat.le_of_ble_eq_true hc.1
        have hc2 : z.length = sz + 1 := Nat.eq_of_beq_eq_true hc.2
        split at hm
        · rename_i cs hf
          cases hm
          obtain ⟨i, zv, hi, hz', hr, hv⟩ := zeroCs_some hz
          have hvr := repl_vrs (hv ρ) len (by omega)
          obtain ⟨out', h1, h2⟩ := fill_sound _ _ _ _ _ _ hf hlen hps hvr
          refine ⟨_, _, ?_, BR.fresh h2⟩
          simp only [execOp]
          apply run_v
          have h1' : Instr.fill (fun i => some (i * sz.succ, sz.succ)) ((Array.range (len * sz.succ)).map (zv.cells[· % zv.cells.size]!)) (parts.map fun (i, x) => (i, re x)).toList = some out' := by rw [hc2] at h1; exact h1
          have hn : ¬ (len * sz.succ > 2 ^ 24) := by show ¬ (len * (sz + 1) > 2 ^ 24); omega
          simp only [Instr.buildSlice, Sem.run_bind, run_underlying hu, Result.andThen_ok, run_sizeOf hsz, if_neg hn]
          by_cases h0 : len * sz.succ = 0
          · have e0 : ∀ (z : Array Value), (Array.range (len * sz.succ)).map (z[· % z.size]!) = #[] := fun z => by rw [h0]; simp
            rw [e0] at h1'
            simp only [if_pos h0, Sem.run_bind, Sem.run_pure, Result.andThen_ok, e0, h1', newRow_run]
            rfl
          · simp only [if_neg h0, Sem.run_bind, Sem.run_pure, Result.andThen_ok, hr, h1', newRow_run]
            rfl
        · cases hm
    · cases hm
  · cases hm
theorem makeMap_ok {t : TypeId} {r : Option Operand} {mk : Mk} {blk : SBlk} (hm : mkMap t r P env = some (mk, blk)) :
    AllocOK ρ w ((execOp re ⟨d, .makeMap t r, ty, pos, af, gd⟩).run P w) mk blk := by
  unfold mkMap at hm
  split at hm
  · cases hm
    refine ⟨.map #[] 0, 0, ?_, ⟨#[], rfl, by simp [ER]⟩⟩
    simp only [execOp]
    apply run_v
    simp [Instr.makeMap, newB, realOf]
  · cases hm
theorem asN_some {x : SV} {n : Nat} (h : asN x = some n) : ∃ k, x = .int k (.ofNat n) := by
  unfold asN at h
  split at h
  · rename_i k m; cases h; exact ⟨k, rfl⟩
  · cases h
theorem OR.asN {x : Operand} {n : Nat} (hx : OR ρ env re x) (h : asN (evO x env) = some n) : ∃ k, re x = .int k n := by
  obtain ⟨k, hk⟩ := asN_some h
  have := hx (by rw [hk]; simp)
  rw [hk] at this
  simp only [VR] at this
  exact ⟨k, this⟩
theorem makeSlice_ok {t : TypeId} {l c : Operand} {mk : Mk} {blk : SBlk} (hl : OR ρ env re l) (hc : OR ρ env re c) (hm : mkMakeSlice t l c P env = some (mk, blk)) :
    AllocOK ρ w ((execOp re ⟨d, .makeSlice t l c, ty, pos, af, gd⟩).run P w) mk blk := by
  unfold mkMakeSlice at hm
  split at hm
  · rename_i e hu
    split at hm
    · rename_i i z len cap hi hz hln hcp
      cases hq : (Nat.ble len cap && small cap i.bytes && Nat.beq z.length i.size && Nat.ble 1 i.size) with
      | false => rw [hq] at hm; simp at hm
      | true =>
        rw [hq] at hm
        simp at hm
        obtain ⟨rfl, rfl⟩ := hm
        simp only [Bool.and_eq_true, small] at hq
        obtain ⟨⟨⟨h1, h2, h3⟩, h4⟩, h5⟩ := hq
        have h1 := Nat.le_of_ble_eq_true h1
        have h2 := Nat.le_of_ble_eq_true h2
        have h3 := Nat.le_of_ble_eq_true h3
        have h4 := Nat.eq_of_beq_eq_true h4
        have h5 := Nat.le_of_ble_eq_true h5
        obtain ⟨kl, hkl⟩ := hl.asN hln
        obtain ⟨kc, hkc⟩ := hc.asN hcp
        obtain ⟨i', zv, hi', hz', hr, hv⟩ := zeroCs_some hz
        rw [hi] at hi'; cases hi'
        have hvr := repl_vrs (hv ρ) cap (by omega)
        have hb : i.bytes * cap ≤ 1048576 * 1048576 := Nat.mul_le_mul h3 h2
        refine ⟨_, _, ?_, BR.fresh hvr⟩
        simp only [execOp]
        apply run_v
        simp only [hkl, hkc]
        have hb' : (i.bytes : Int) * ((cap : Nat) : Int) ≤ 281474976710656 := by
          have : ((i.bytes * cap : Nat) : Int) = (i.bytes : Int) * (cap : Int) := Int.natCast_mul _ _
          rw [← this]; omega
        rw [run_make w t e i zv hu hi hz' kl kc len cap (by omega) (by omega) hb' (by omega)]
        rw [h4]
        rfl
    · cases hm
  · cases hm
end Go.Sh
namespace Go.Sh
variable [Opq]
open Go.RowKit (Below)
variable {I : Rho → World → Prop}
variable {P : Program} {ρ : Rho} {N : Bound I} {s : St} {w : World} {k0 : Prop}

/-! ## numbers -/
theorem intBin_sound {op : BinOp} {t : TypeId} {k k' : IntKind} {a b : Int} (h : intBin op k a k' b ≠ .bad) : ∃ v, (binOp op t (.int k a) (.int k' b)).run P w = .ok v w ∧ VR ρ (intBin op k a k' b) v := by
  have key : ∀ op', op' ≠ .shl → op' ≠ .shr → intBin op' k a k' b ≠ .bad → k = k' ∧ intBin op' k a k' b = intOp op' k a b := by
    intro op' h1 h2 h3
    cases hk : eqK k k' with
    | true => exact ⟨(eqK_eq k k').1 hk, by cases op' <;> first | exact absurd rfl h1 | exact absurd rfl h2 | simp [intBin, hk]⟩
    | false => exfalso; apply h3; cases op' <;> first | exact absurd rfl h1 | exact absurd rfl h2 | simp [intBin, hk]
  cases op
  case shl =>
    simp only [intBin] at h ⊢
    cases b with
    | negSucc n => simp [shlS] at h
    | ofNat n =>
      refine ⟨_, by simp [binOp, Op.shift]; rfl, ?_⟩
      simp only [shlS, VR, wrapF_eq, minN_eq]
      congr 2
  case shr =>
    simp only [intBin] at h ⊢
    cases b with
    | negSucc n => simp [shrS] at h
    | ofNat n =>
      refine ⟨_, by simp [binOp, Op.shift]; rfl, ?_⟩
      simp only [shrS, VR, minN_eq]
      congr 1
  all_goals
    obtain ⟨hkk, he⟩ := key _ (by simp) (by simp) h
    subst hkk
    rw [he] at h ⊢
    simp only [intOp] at h ⊢
  case quo =>
    by_cases hb : eqI b 0 = true
    · rw [hb] at h; simp at h
    · simp only [Bool.not_eq_true] at hb
      rw [hb, cond_false]
      rw [eqI_eq] at hb
      have hb' : b ≠ 0 := by simpa using hb
      exact ⟨_, by simp [binOp, Op.intDiv, hb']; rfl, by simp [VR, wrapF_eq]⟩
  case rem =>
    by_cases hb : eqI b 0 = true
    · rw [hb] at h; simp at h
    · simp only [Bool.not_eq_true] at hb
      rw [hb, cond_false]
      rw [eqI_eq] at hb
      have hb' : b ≠ 0 := by simpa using hb
      exact ⟨_, by simp [binOp, Op.intDiv, hb']; rfl, by simp [VR]⟩
  case add => exact ⟨_, by simp [binOp, Op.intArith]; rfl, by simp only [VR, wrapF_eq]; rfl⟩
  case sub => exact ⟨_, by simp [binOp, Op.intArith]; rfl, by simp only [VR, wrapF_eq]; rfl⟩
  case mul => exact ⟨_, by simp [binOp, Op.intArith]; rfl, by simp only [VR, wrapF_eq]; rfl⟩
  case and => exact ⟨_, by simp [binOp, Op.intBits]; rfl, by simp [VR]⟩
  case or => exact ⟨_, by simp [binOp, Op.intBits]; rfl, by simp [VR]⟩
  case xor => exact ⟨_, by simp [binOp, Op.intBits]; rfl, by simp [VR]⟩
  case andNot => exact ⟨_, by simp [binOp, Op.intBits]; rfl, by simp [VR]⟩
  case eql => exact ⟨_, by simp [binOp, Op.intCmp]; rfl, by simp [VR, eqI_eq]⟩
  case neq => exact ⟨_, by simp [binOp, Op.intCmp]; rfl, by simp [VR, eqI_eq]; rfl⟩
  case lss => exact ⟨_, by simp [binOp, Op.intCmp]; rfl, by simp [VR, ltI_eq]⟩
  case leq => exact ⟨_, by simp [binOp, Op.intCmp]; rfl, by simp only [VR, ltI_eq]; rw [← decide_not]; simp [Int.not_lt]⟩
  case gtr => exact ⟨_, by simp [binOp, Op.intCmp]; rfl, by simp [VR, ltI_eq]⟩
  case geq => exact ⟨_, by simp [binOp, Op.intCmp]; rfl, by simp only [VR, ltI_eq]; rw [← decide_not]; simp [Int.not_lt]⟩
  all_goals exact absurd rfl h

/-! ## strings -/
def SR (b : ByteArray) (len n : Nat) : Prop := b.size = len ∧ natOf b.data.toList = n
theorem SR.len {b : ByteArray} {len n : Nat} (h : SR b len n) : b.data.toList.length = len := by have := h.1; simpa using this
theorem natOf_mod (c : UInt8) (cs : List UInt8) : natOf (c :: cs) % 256 = c.toNat := by
  rw [natOf_cons]; have := c.toNat_lt; omega
theorem natOf_div (c : UInt8) (cs : List UInt8) : natOf (c :: cs) / 256 = natOf cs := by
  rw [natOf_cons]; have := c.toNat_lt; omega
theorem eqStr_eq {a b : List UInt8} : eqStr a.length (natOf a) b.length (natOf b) = (a == b) := by
  unfold eqStr
  cases h : Nat.beq a.length b.length with
  | false =>
    rw [cond_false]
    symm
    rw [beq_eq_false_iff_ne]
    intro e
    subst e
    simp at h
  | true =>
    rw [cond_true]
    have hl := Nat.eq_of_beq_eq_true h
    cases h2 : Nat.beq (natOf a) (natOf b) with
    | true => rw [natOf_inj a b hl (Nat.eq_of_beq_eq_true h2)]; simp
    | false =>
      symm
      rw [beq_eq_false_iff_ne]
      intro e
      subst e
      simp at h2
theorem strLess_eq : ∀ (a b : List UInt8), strLess a.length (natOf a) b.length (natOf b) = Op.bytesLess a b
  | [], [] => by simp [strLess, Op.bytesLess]
  | [], _ :: _ => by simp only [List.length_nil, List.length_cons, strLess, Op.bytesLess]; rfl
  | c :: cs, [] => by simp [strLess, Op.bytesLess]
  | c :: cs, e :: es => by
    simp only [List.length_cons, strLess, Op.bytesLess]
    have h0 : Nat.beq (es.length + 1) 0 = false := rfl
    rw [h0, cond_false]
    have m1 : Nat.mod (natOf (c :: cs)) 256 = c.toNat := natOf_mod c cs
    have m2 : Nat.mod (natOf (e :: es)) 256 = e.toNat := natOf_mod e es
    have d1 : Nat.div (natOf (c :: cs)) 256 = natOf cs := natOf_div c cs
    have d2 : Nat.div (natOf (e :: es)) 256 = natOf es := natOf_div e es
    rw [m1, m2, d1, d2]
    have hp : Nat.pred (es.length + 1) = es.length := rfl
    rw [hp, strLess_eq cs es]
    by_cases hlt : c < e
    · have : Nat.ble (Nat.succ c.toNat) e.toNat = true := Nat.ble_eq_true_of_le (UInt8.lt_iff_toNat_lt.1 hlt)
      rw [this]; simp [hlt]
    · have : Nat.ble (Nat.succ c.toNat) e.toNat = false := by
        cases hb : Nat.ble (Nat.succ c.toNat) e.toNat with
        | false => rfl
        | true => exact absurd (UInt8.lt_iff_toNat_lt.2 (Nat.le_of_ble_eq_true hb)) hlt
      rw [this, cond_false]
      by_cases he : c = e
      · subst he; simp
      · have : Nat.beq c.toNat e.toNat = false := by
          cases hb : Nat.beq c.toNat e.toNat with
          | false => rfl
          | true => exact absurd (UInt8.toNat_inj.1 (Nat.eq_of_beq_eq_true hb)) he
        rw [this]; simp [hlt, he]
theorem bytesLess_total : ∀ (a b : List UInt8), Op.bytesLess b a = !(Op.bytesLess a b || a == b)
  | [], [] => by simp [Op.bytesLess]
  | [], _ :: _ => by simp [Op.bytesLess]
  | c :: cs, [] => by simp [Op.bytesLess]
  | c :: cs, e :: es => by
    simp only [Op.bytesLess, bytesLess_total cs es]
    rcases Nat.lt_trichotomy c.toNat e.toNat with h | h | h
    · have h1 : c < e := UInt8.lt_iff_toNat_lt.2 h
      have h2 : ¬ e < c := fun k => by have := UInt8.lt_iff_toNat_lt.1 k; omega
      have h3 : c ≠ e := fun k => by subst k; omega
      have h4 : e ≠ c := fun k => h3 k.symm
      simp [h1, h2, h4]
    · have h1 : c = e := UInt8.toNat_inj.1 h
      subst h1
      simp
    · have h1 : e < c := UInt8.lt_iff_toNat_lt.2 h
      have h2 : ¬ c < e := fun k => by have := UInt8.lt_iff_toNat_lt.1 k; omega
      have h3 : c ≠ e := fun k => by subst k; omega
      simp [h1, h2, h3]
theorem strOp_sound {op : BinOp} {t : TypeId} {la na lb nb : Nat} {a b : ByteArray} (ha : SR a la na) (hb : SR b lb nb) (h : strOp op la na lb nb ≠ .bad) :
    ∃ v, (binOp op t (.string a) (.string b)).run P w = .ok v w ∧ VR ρ (strOp op la na lb nb) v := by
  obtain ⟨ha1, rfl⟩ := ha
  obtain ⟨hb1, rfl⟩ := hb
  have ha1' : la = a.data.toList.length := by rw [← ha1]; simp
  have hb1' : lb = b.data.toList.length := by rw [← hb1]; simp
  have hta := ByteArray.toList_eq (bs := a)
  have htb := ByteArray.toList_eq (bs := b)
  cases op <;> simp only [strOp] at h ⊢
  case add =>
    cases hl : Nat.ble (Nat.add la lb) 1073741824 with
    | false => rw [hl] at h; simp at h
    | true =>
      rw [cond_true]
      have hl' : la + lb ≤ 1073741824 := Nat.le_of_ble_eq_true hl
      refine ⟨.string (a ++ b), ?_, ?_⟩
      · simp [binOp, Op.stringOp]
        omega
      · simp only [strCat, VR]
        refine ⟨a ++ b, rfl, ?_, ?_⟩
        · simp [ByteArray.size_append, ha1, hb1]
        · rw [ByteArray.data_append, Array.toList_append, natOf_append, ha1']
          rfl
  case eql => exact ⟨_, rfl, by simp only [VR]; rw [ha1', hb1', eqStr_eq, hta, htb]⟩
  case neq => exact ⟨_, rfl, by simp only [VR]; rw [ha1', hb1', eqStr_eq, hta, htb]⟩
  case lss => exact ⟨_, rfl, by simp only [VR]; rw [ha1', hb1', strLess_eq, hta, htb]⟩
  case geq => exact ⟨_, rfl, by simp only [VR]; rw [ha1', hb1', strLess_eq, hta, htb]⟩
  case leq => exact ⟨_, rfl, by simp only [VR]; rw [ha1', hb1', strLess_eq, hta, htb, bytesLess_total a.data.toList b.data.toList, Bool.not_not]⟩
  case gtr => exact ⟨_, rfl, by simp only [VR]; rw [ha1', hb1', strLess_eq, hta, htb, bytesLess_total a.data.toList b.data.toList]⟩
  all_goals exact absurd rfl h

/-! ## parts of structs -/
theorem takeN_vrs {cs : List SV} {l : List Value} {off n : Nat} {ds : List SV} (hc : VRs ρ cs l) (h : takeN n (dropN off cs) = some ds) : VRs ρ ds ((l.drop off).take n) := by
  obtain ⟨h1, h2⟩ := takeN_some n _ ds h
  rw [dropN_eq] at h1 h2
  have hl := hc.len
  refine VRs.of_get (by subst h1; simp; omega) fun i x v hx hv => ?_
  subst h1
  rw [List.getElem?_take] at hx hv
  by_cases hi : i < n
  · rw [if_pos hi, List.getElem?_drop] at hx hv
    obtain ⟨u, h3, h4⟩ := hc.get _ _ hx
    rw [h3] at hv; cases hv; exact h4
  · rw [if_neg hi] at hx; cases hx
theorem partV_sound {t : TypeId} {cs : List SV} {l : Array Value} {off : Nat} (hc : VRs ρ cs l.toList) (h : partV P t cs off ≠ .bad) :
    ∃ v, (∀ w : World, (part t l off).run P w = .ok v w) ∧ VR ρ (partV P t cs off) v := by
  unfold partV at h ⊢
  split at h
  · rename_i dd hd
    cases ha : isAggD dd with
    | true =>
      rw [ha, cond_true] at h
      rw [cond_true]
      split at h
      · rename_i n hn
        obtain ⟨ds, h1, h2⟩ := optAgg_some h
        have hv := takeN_vrs hc h1
        refine ⟨.agg (l.extract off (off + n)), fun w => ?_, ?_⟩
        · simp [part, run_isAgg hd, ha, run_sizeOf hn]
        · rw [h2]
          simp only [VR]
          refine ⟨_, hv, ?_⟩
          congr 1
          apply Array.ext'
          simp [Nat.add_sub_cancel_left]
      · exact absurd rfl h
    | false =>
      rw [ha, cond_false] at h
      rw [cond_false]
      have h0 := headC_some h
      rw [dropN_eq] at h0 h
      rw [dropN_eq]
      have h1 : cs[off]? = some (headC (List.drop off cs)) := by rw [← h0]; simp
      obtain ⟨u, h3, h4⟩ := hc.get _ _ h1
      refine ⟨u, fun w => ?_, h4⟩
      rw [Array.getElem?_toList] at h3
      simp [part, run_isAgg hd, ha, h3]
  · exact absurd rfl h

/-! ## equality -/
structure EOk (P : Program) (E : EE) : Prop where
  eq : ∀ t, E.e t = true → P.stoodInHeld t = false ∧ P.eqGuardType P.depth t = false
  op : ∀ (op : BinOp) (t : TypeId) (x y : SV) (v u : Value) (w : World) (ρ : Rho), E.o op x y ≠ .bad → VR ρ x v → VR ρ y u → ∃ r, (binOp op t v u).run P w = .ok r w ∧ VR ρ (E.o op x y) r
  sl : ∀ (i l : Nat) (h : Option Nat) (ρ : Rho), E.s (.opq i) l h ≠ .bad → ∃ a, Opq.val i = .string a ∧ l ≤ h.getD a.size ∧ h.getD a.size ≤ a.size ∧ VR ρ (E.s (.opq i) l h) (.string (a.extract l (h.getD a.size)))
  cv : ∀ (k : IntKind) (i : Nat) (ρ : Rho), E.c k (.opq i) ≠ .bad → ∃ k0 n, Opq.val i = .int k0 n ∧ VR ρ (E.c k (.opq i)) (.int k (k.wrap n))
theorem eqB_bool (a b : Bool) : eqB a b = (a == b) := eqB_eq a b
theorem sameAddr_cells (H : Rel ρ N s w) {b b' r base e o r' base' e' o' : Nat} (hb : ρ b = some (r, base, e)) (hb' : ρ b' = some (r', base', e')) (hne : Nat.beq b b' = false) (hc : isCells (s.h.get b) = true) (hc' : isCells (s.h.get b') = true) :
    (sameAddr ⟨r, o, none⟩ ⟨r', o', none⟩).run P w = .ok false w := by
  have hrr : r ≠ r' := by
    intro e1
    subst e1
    have := H.inj _ _ _ _ _ _ _ hb hb' (by cases hg : s.h.get b <;> rw [hg] at hc <;> simp [isCells] at hc; simp [writable]) (by cases hg : s.h.get b' <;> rw [hg] at hc' <;> simp [isCells] at hc'; rfl)
    subst this
    simp at hne
  have hl := H.live _ _ _ _ hb
  have hl' := H.live _ _ _ _ hb'
  cases hg : s.h.get b <;> rw [hg] at hc hl <;> simp [isCells] at hc
  cases hg' : s.h.get b' <;> rw [hg'] at hc' hl' <;> simp [isCells] at hc'
  rename_i ty1 cs1 ty2 cs2
  obtain ⟨rc, ho, _⟩ := hl
  obtain ⟨rc', ho', _⟩ := hl'
  have f1 : ∀ o, w.frozen? ⟨r, o, none⟩ = false := fun o => frozen_at ho o (by simp)
  have f2 : ∀ o, w.frozen? ⟨r', o, none⟩ = false := fun o => frozen_at ho' o (by simp)
  have s1 : w.shape? r = some (ty1, rc.size) := by simp [World.shape?, ho]
  have s2 : w.shape? r' = some (ty2, rc'.size) := by simp [World.shape?, ho']
  simp [sameAddr, hrr, f1, f2, noView, viewAt, s1, s2, mayBeOne, stringish]
theorem addr_beq (r base o o' : Nat) : ((⟨r, base + o, none⟩ : Addr) == ⟨r, base + o', none⟩) = Nat.beq o o' := by
  cases h : Nat.beq o o' with
  | true => rw [Nat.eq_of_beq_eq_true h]; simp
  | false =>
    rw [beq_eq_false_iff_ne]
    intro e
    have : o = o' := by injection e; omega
    subst this
    simp at h
theorem strish_VR {ρ : Rho} {x : SV} {v : Value} (h : strish x = true) (hv : VR ρ x v) : ∃ a, v = .string a := by
  cases x <;> simp [strish] at h
  · simp only [VR] at hv
    obtain ⟨a, rfl, _⟩ := hv
    exact ⟨a, rfl⟩
  · rename_i i
    simp only [VR] at hv
    subst hv
    exact Opq.str i (by omega)
theorem strE_some {E : EE} {x y : SV} {r : Bool} (h : strE E x y = some r) : strish x = true ∧ strish y = true ∧ E.o .eql x y = .bool r := by
  unfold strE at h
  cases hx : strish x with
  | false => rw [hx] at h; cases h
  | true =>
    cases hy : strish y with
    | false => rw [hx, hy] at h; cases h
    | true =>
      rw [hx, hy, cond_true, cond_true] at h
      refine ⟨rfl, rfl, ?_⟩
      cases ho : E.o .eql x y <;> rw [ho] at h <;> simp [boolO] at h
      rw [h]
theorem strE_sound {E : EE} (hE : EOk P E) {ρ : Rho} {x y : SV} {r : Bool} (w : World) (h : strE E x y = some r) {v u : Value} (hv : VR ρ x v) (hu : VR ρ y u) : ∃ a b, v = .string a ∧ u = .string b ∧ r = (a.toList == b.toList) := by
  obtain ⟨hx, hy, ho⟩ := strE_some h
  obtain ⟨a, rfl⟩ := strish_VR hx hv
  obtain ⟨b, rfl⟩ := strish_VR hy hu
  refine ⟨a, b, rfl, rfl, ?_⟩
  obtain ⟨q, h1, h2⟩ := hE.op .eql 0 x y _ _ w ρ (by rw [ho]; simp) hv hu
  rw [ho] at h2
  simp only [VR] at h2
  subst h2
  simp [binOp, Op.stringOp] at h1
  exact h1.symm
theorem strish_nb {x : SV} (h : strish x = true) : x ≠ .bad ∧ x ≠ .junk := by
  constructor <;> (intro e; subst e; simp [strish] at h)
theorem eqT_bad {E : EE} {h : Hp} {n : Nat} {t : TypeId} {x y : SV} {r : Bool} (hq : eqT E P h n t x y = some r) : x ≠ .bad ∧ y ≠ .bad := by
  cases n with
  | zero => simp [eqT] at hq
  | succ n =>
    simp only [eqT, eqBoolS, eqIntS, eqStrS, eqPtrS, eqIfcS, eqSlcS, eqMapS, eqFnS, eqAggS] at hq
    constructor
    · intro e
      subst e
      split at hq
      · split at hq
        all_goals first
          | (simp at hq; done)
          | (cases y <;> simp [strE, strish] at hq; done)
          | (cases hE : E.e t <;> rw [hE] at hq <;> cases y <;> simp at hq; done)
      · cases hq
    · intro e
      subst e
      split at hq
      · split at hq
        all_goals first
          | (simp at hq; done)
          | (cases x <;> simp [strE, strish] at hq; done)
          | (cases hE : E.e t <;> rw [hE] at hq <;> cases x <;> simp at hq; done)
      · cases hq
theorem eqT_sound {E : EE} (hE : EOk P E) (H : Rel ρ N s w) : ∀ (n m : Nat), n ≤ m → ∀ (t : TypeId) (x y : SV) (vx vy : Value) (r : Bool), eqT E P s.h n t x y = some r → (x ≠ .bad → VR ρ x vx) → (y ≠ .bad → VR ρ y vy) →
    (Op.equalIn m t vx vy).run P w = .ok r w
  | 0, _, _, _, _, _, _, _, _, h, _, _ => by simp [eqT] at h
  | n + 1, 0, hm, _, _, _, _, _, _, _, _, _ => by omega
  | n + 1, m + 1, hm, t, x, y, vx, vy, r, h, hx, hy => by
    simp only [eqT, eqBoolS, eqIntS, eqStrS, eqPtrS, eqIfcS, eqSlcS, eqMapS, eqFnS, eqAggS] at h
    split at h
    · rename_i dd hd
      split at h
      · -- bool
        split at h
        · simp only [VR] at hx hy
          have hx := hx (by simp); have hy := hy (by simp)
          subst hx hy
          cases h
          simp [Op.equalIn, run_underlying hd, eqB_eq]
        · cases h
      · -- int
        rename_i k0
        split at h
        · rename_i k a k' b
          simp only [VR] at hx hy
          have hx := hx (by simp); have hy := hy (by simp)
          subst hx hy
          cases hk : eqK k k' with
          | false => rw [hk] at h; simp at h
          | true =>
            rw [hk] at h
            have := (eqK_eq k k').1 hk
            subst this
            cases h
            simp [Op.equalIn, run_underlying hd, eqI_eq]
        · cases h
      · -- string
        split at h
        · rename_i la na lb nb
          simp only [VR] at hx hy
          obtain ⟨a, rfl, ha⟩ := hx (by simp); obtain ⟨b, rfl, hb⟩ := hy (by simp)
          cases h
          rw [run_equalIn_string w m t a b hd]
          have h1 := SR.len ha
          have h2 := SR.len hb
          rw [← h1, ← h2, ← ha.2, ← hb.2, eqStr_eq, ByteArray.toList_eq, ByteArray.toList_eq]
        · obtain ⟨s1, s2, _⟩ := strE_some h
          obtain ⟨a, b, rfl, rfl, rfl⟩ := strE_sound hE w h (hx (strish_nb s1).1) (hy (strish_nb s2).1)
          exact run_equalIn_string w m t a b hd
        · obtain ⟨s1, s2, _⟩ := strE_some h
          obtain ⟨a, b, rfl, rfl, rfl⟩ := strE_sound hE w h (hx (strish_nb s1).1) (hy (strish_nb s2).1)
          exact run_equalIn_string w m t a b hd
        · cases h
      · -- pointer
        rename_i e0
        split at h
        · simp only [VR] at hx hy
          have hx := hx (by simp); have hy := hy (by simp)
          subst hx hy; cases h
          simp [Op.equalIn, run_underlying hd]
        · simp only [VR] at hx hy
          have hx := hx (by simp); obtain ⟨_, _, _, _, hy⟩ := hy (by simp)
          subst hx hy; cases h
          simp [Op.equalIn, run_underlying hd]
        · simp only [VR] at hx hy
          obtain ⟨_, _, _, _, hx⟩ := hx (by simp); have hy := hy (by simp)
          subst hx hy; cases h
          simp [Op.equalIn, run_underlying hd]
        · rename_i b o b' o'
          split at h
          · rename_i n0 hsz
            simp only [VR] at hx hy
            obtain ⟨r1, base1, e1, hb1, hx⟩ := hx (by simp); obtain ⟨r2, base2, e2, hb2, hy⟩ := hy (by simp)
            subst hx hy
            have heq : (Op.equalIn (m + 1) t (.pointer (some ⟨r1, base1 + o, none⟩)) (.pointer (some ⟨r2, base2 + o', none⟩))).run P w = (sameAddr ⟨r1, base1 + o, none⟩ ⟨r2, base2 + o', none⟩).run P w := by
              simp [Op.equalIn, run_underlying hd, run_sizeOf hsz]
            rw [heq]
            cases hbb : Nat.beq b b' with
            | true =>
              rw [hbb] at h
              have := Nat.eq_of_beq_eq_true hbb
              subst this
              rw [hb1] at hb2; cases hb2
              simp at h
              subst h
              rw [← addr_beq r1 base1 o o']
              simp [sameAddr]
            | false =>
              rw [hbb, cond_false] at h
              cases hc : isCells (s.h.get b) with
              | false => rw [hc] at h; simp at h
              | true =>
                cases hc' : isCells (s.h.get b') with
                | false => rw [hc, hc'] at h; simp at h
                | true =>
                  rw [hc, hc'] at h
                  simp at h
                  subst h
                  exact sameAddr_cells H hb1 hb2 hbb hc hc'
          · cases h
        · cases h
      · -- interface
        split at h
        · simp only [VR] at hx hy
          have hx := hx (by simp); have hy := hy (by simp)
          subst hx hy; cases h
          simp [Op.equalIn, run_underlying hd]
        · simp only [VR] at hx hy
          have hx := hx (by simp); obtain ⟨_, _, hy⟩ := hy (by simp)
          subst hx hy; cases h
          simp [Op.equalIn, run_underlying hd]
        · simp only [VR] at hx hy
          obtain ⟨_, _, hx⟩ := hx (by simp); have hy := hy (by simp)
          subst hx hy; cases h
          simp [Op.equalIn, run_underlying hd]
        · cases h
      · -- slice
        split at h
        · simp only [VR] at hy
          have hy := hy (by simp)
          subst hy
          split at h
          · simp only [VR] at hx
            have hx := hx (by simp)
            subst hx; cases h
            simp [Op.equalIn, run_underlying hd]
          · simp only [VR] at hx
            obtain ⟨_, _, _, _, hx⟩ := hx (by simp)
            subst hx; cases h
            simp [Op.equalIn, run_underlying hd]
          · simp only [VR] at hx
            obtain ⟨_, _, _, _, _, _, _, hx⟩ := hx (by simp)
            subst hx; cases h
            simp [Op.equalIn, run_underlying hd]
          · simp only [VR] at hx
            obtain ⟨_, _, hx⟩ := hx (by simp)
            subst hx; cases h
            simp [Op.equalIn, run_underlying hd]
          · cases h
        · cases h
      · -- map
        split at h
        · simp only [VR] at hx hy
          have hx := hx (by simp); have hy := hy (by simp)
          subst hx hy; cases h
          simp [Op.equalIn, run_underlying hd]
        · simp only [VR] at hx hy
          obtain ⟨_, _, _, _, hx⟩ := hx (by simp); have hy := hy (by simp)
          subst hx hy; cases h
          simp [Op.equalIn, run_underlying hd]
        · cases h
      · -- func
        split at h
        · simp only [VR] at hx hy
          have hx := hx (by simp); have hy := hy (by simp)
          subst hx hy; cases h
          simp [Op.equalIn, run_underlying hd]
        · simp only [VR] at hx hy
          have hx := hx (by simp); obtain ⟨_, _, _, _, hy⟩ := hy (by simp)
          subst hx hy; cases h
          simp [Op.equalIn, run_underlying hd]
        · simp only [VR] at hx hy
          obtain ⟨_, _, _, _, hx⟩ := hx (by simp); have hy := hy (by simp)
          subst hx hy; cases h
          simp [Op.equalIn, run_underlying hd]
        · cases h
      · -- struct
        rename_i fs
        cases hEt : E.e t with
        | false => rw [hEt] at h; simp at h
        | true =>
          rw [hEt, cond_true] at h
          split at h
          · rename_i as bs
            simp only [VR] at hx hy
            obtain ⟨l, hl, rfl⟩ := hx (by simp); obtain ⟨l', hl', rfl⟩ := hy (by simp)
            have hfs : P.fieldsOf t = fs := by simp [Program.fieldsOf, hd]
            rw [run_equalIn_struct w m t _ _ (by rw [hfs]; exact hd) (hE.eq t hEt).1, hfs]
            have ih := eqT_sound hE H n m (by omega)
            clear hfs
            revert h
            generalize fs.toList = fl
            intro h
            induction fl with
            | nil =>
              simp only [eqT.eqFs] at h
              cases h
              simp [Op.eqFields]
            | cons f fl ihf =>
              simp only [eqT.eqFs] at h
              split at h
              · rename_i heq
                simp only [Op.eqFields]
                by_cases hb : f.name ≠ "_"
                · rw [if_pos hb]
                  obtain ⟨n1, n2⟩ := eqT_bad heq
                  obtain ⟨u1, p1, q1⟩ := partV_sound (l := l.toArray) (by simpa using hl) n1
                  obtain ⟨u2, p2, q2⟩ := partV_sound (l := l'.toArray) (by simpa using hl') n2
                  simp only [Sem.run_bind, p1, p2, Result.andThen_ok, ih _ _ _ _ _ _ heq (fun _ => q1) (fun _ => q2), Bool.not_true, Bool.false_eq_true, if_false]
                  exact ihf h
                · rw [if_neg hb]; exact ihf h
              · rename_i heq
                simp only [Op.eqFields]
                cases hbl : fieldBlank f with
                | true => rw [hbl] at h; simp at h
                | false =>
                  rw [hbl] at h
                  simp at h
                  subst h
                  have hb : f.name ≠ "_" := by simpa [fieldBlank] using hbl
                  rw [if_pos hb]
                  obtain ⟨n1, n2⟩ := eqT_bad heq
                  obtain ⟨u1, p1, q1⟩ := partV_sound (l := l.toArray) (by simpa using hl) n1
                  obtain ⟨u2, p2, q2⟩ := partV_sound (l := l'.toArray) (by simpa using hl') n2
                  simp [p1, p2, ih _ _ _ _ _ _ heq (fun _ => q1) (fun _ => q2)]
              · cases h
          · cases h
      · cases h
    · cases h

theorem optV_some {o : Option Bool} (h : optV o ≠ .bad) : ∃ b, o = some b ∧ optV o = .bool b := by cases o <;> simp [optV] at h ⊢
theorem notO_some {o : Option Bool} {b : Bool} (h : notO o = some b) : o = some (!b) := by cases o <;> simp [notO] at h ⊢; rw [← h]

section
variable {env : En} {re : Operand → Value} {d : Option Tmp} {ty : TypeId} {pos : String} {af : Array Edge} {gd : Option (Nat × Bool)}
theorem run_guarded {op : BinOp} {t u : TypeId} {x y : Operand} {v : Value} (hg : (eqGuard op t x y (re x) (re y)).run P w = .ok () w) (hb : (binOp op t (re x) (re y)).run P w = .ok v w) :
    (execOp re ⟨d, .binOp op t x y u, ty, pos, af, gd⟩).run P w = .ok (.value v) w := by
  simp only [execOp]
  apply run_v
  simp only [Sem.run_bind, hg, Result.andThen_ok, hb]
theorem eqGuard_plain {op : BinOp} {t : TypeId} {x y : Operand} {a b : Value} (h1 : a = .nilIface → b ≠ .nilIface) (h2 : ∀ xs, a ≠ .agg xs) : (eqGuard op t x y a b).run P w = .ok () w := by
  unfold eqGuard
  cases op <;> simp <;> (split <;> first | rfl | (exact absurd rfl (h2 _)) | (exact absurd rfl (h1 rfl)))
theorem eqGuard_const {op : BinOp} {t : TypeId} {x y : Operand} (h : (isConst x || isConst y) = true) : (eqGuard op t x y .nilIface .nilIface).run P w = .ok () w := by
  cases x <;> cases y <;> simp [isConst] at h <;> cases op <;> simp [eqGuard]
theorem binop_eql {t : TypeId} {a b : Value} {r : Bool} {op : BinOp} (hop : op = .eql ∨ op = .neq) (hi : ∀ k n k' m, a = .int k n → b ≠ .int k' m) (hf : ∀ k n, a ≠ .float k n) (hc : ∀ k n m, a ≠ .complex k n m) (hs : ∀ x y, a = .string x → b ≠ .string y)
    (h : (Op.equal t a b).run P w = .ok r w) : (binOp op t a b).run P w = .ok (.bool (if op = .eql then r else !r)) w := by
  rcases hop with rfl | rfl
  · unfold binOp
    split <;> first
      | (simp [h]; done)
      | (rename_i h1 _ _; exact absurd rfl (by simpa using h1))
      | (exact absurd rfl (hi _ _ _ _ rfl))
      | (exact absurd rfl (hf _ _))
      | (exact absurd rfl (hc _ _ _))
      | (exact absurd rfl (hs _ _ rfl))
      | (simp_all; done)
  · unfold binOp
    split <;> first
      | (simp [h]; done)
      | (exact absurd rfl (hi _ _ _ _ rfl))
      | (exact absurd rfl (hf _ _))
      | (exact absurd rfl (hc _ _ _))
      | (exact absurd rfl (hs _ _ rfl))
      | (simp_all; done)

theorem ifcOf {ρ : Rho} {x : SV} {v : Value} (hx : x ≠ .bad) (hj : x ≠ .junk) (h : VR ρ x v) : (v = .nilIface → x = .nili) ∧ ((∃ l, v = .agg l) → ∃ cs, x = .agg cs) ∧ (∀ k n, v ≠ .complex k n n) := by
  cases x <;> simp only [VR] at h <;> try (exact absurd rfl hx)
  all_goals first
    | (exact absurd rfl hj)
    | (subst h; refine ⟨?_, ?_, ?_⟩ <;> simp; done)
    | (obtain ⟨_, h, _⟩ := h; subst h; refine ⟨?_, ?_, ?_⟩ <;> simp; done)
    | (obtain ⟨_, _, h⟩ := h; subst h; refine ⟨?_, ?_, ?_⟩ <;> simp; done)
    | (obtain ⟨_, _, _, _, h⟩ := h; subst h; refine ⟨?_, ?_, ?_⟩ <;> simp; done)
    | (obtain ⟨_, _, _, _, _, _, _, h⟩ := h; subst h; refine ⟨?_, ?_, ?_⟩ <;> simp; done)
    | (subst h; rename_i i; rcases Opq.shape i with ⟨_, hs⟩ | ⟨_, _, _, hs⟩ | ⟨_, _, hs⟩ <;> rw [hs] <;> refine ⟨?_, ?_, ?_⟩ <;> simp)
theorem eqT_junk {E : EE} {h : Hp} {n : Nat} {t : TypeId} {x y : SV} {r : Bool} (hq : eqT E P h n t x y = some r) : x ≠ .junk ∧ y ≠ .junk := by
  cases n with
  | zero => simp [eqT] at hq
  | succ n =>
    simp only [eqT, eqBoolS, eqIntS, eqStrS, eqPtrS, eqIfcS, eqSlcS, eqMapS, eqFnS, eqAggS] at hq
    constructor
    · intro e
      subst e
      split at hq
      · split at hq
        all_goals first
          | (simp at hq; done)
          | (cases y <;> simp [strE, strish] at hq; done)
          | (cases hE : E.e t <;> rw [hE] at hq <;> cases y <;> simp at hq; done)
      · cases hq
    · intro e
      subst e
      split at hq
      · split at hq
        all_goals first
          | (simp at hq; done)
          | (cases x <;> simp [strE, strish] at hq; done)
          | (cases hE : E.e t <;> rw [hE] at hq <;> cases x <;> simp at hq; done)
      · cases hq
/-- what a value that is compared by its type is not -/
theorem eqT_agg {E : EE} (hE : EOk P E) {h : Hp} {n : Nat} {t : TypeId} {cs : List SV} {y : SV} {r : Bool} (hq : eqT E P h n t (.agg cs) y = some r) : P.eqGuardType P.depth t = false ∧ ∃ ds, y = .agg ds := by
  cases n with
  | zero => simp [eqT] at hq
  | succ n =>
    simp only [eqT, eqBoolS, eqIntS, eqStrS, eqPtrS, eqIfcS, eqSlcS, eqMapS, eqFnS, eqAggS] at hq
    split at hq
    · split at hq
      all_goals first
        | (simp at hq; done)
        | (cases y <;> simp at hq; done)
        | skip
      rename_i fs _
      cases hEt : E.e t with
      | false => rw [hEt] at hq; simp at hq
      | true =>
        refine ⟨(hE.eq t hEt).2, ?_⟩
        rw [hEt] at hq
        cases y <;> simp at hq
        exact ⟨_, rfl⟩
    · cases hq
def plainV : SV → Bool
  | .bad => false
  | .junk => false
  | .flt .. => false
  | .capx .. => false
  | .tup _ => false
  | .opq _ => false
  | _ => true
theorem eqT_plain {E : EE} {h : Hp} {n : Nat} {t : TypeId} {x y : SV} {r : Bool} (hno : ∀ i, x ≠ .opq i) (hq : eqT E P h n t x y = some r) : plainV x = true := by
  cases n with
  | zero => simp [eqT] at hq
  | succ n =>
    simp only [eqT, eqBoolS, eqIntS, eqStrS, eqPtrS, eqIfcS, eqSlcS, eqMapS, eqFnS, eqAggS] at hq
    split at hq
    · split at hq
      all_goals first
        | (cases x <;> first | rfl | exact absurd rfl (hno _) | (cases y <;> simp at hq; done))
        | (cases hE : E.e t <;> rw [hE] at hq <;> cases x <;> first | rfl | (cases y <;> simp at hq; done))
    · cases hq
theorem plain_not {x : SV} {v : Value} (hp : plainV x = true) (hi : ∀ k n, x ≠ .int k n) (hs : ∀ l n, x ≠ .str l n) (h : VR ρ x v) :
    (∀ k n, v ≠ .int k n) ∧ (∀ k n, v ≠ .float k n) ∧ (∀ k n m, v ≠ .complex k n m) ∧ (∀ b, v ≠ .string b) := by
  cases x <;> simp [plainV] at hp <;> simp only [VR] at h
  all_goals first
    | (exact absurd rfl (hi _ _))
    | (exact absurd rfl (hs _ _))
    | (subst h; simp; done)
    | (obtain ⟨_, h, _⟩ := h; subst h; simp; done)
    | (obtain ⟨_, _, h⟩ := h; subst h; simp; done)
    | (obtain ⟨_, _, _, _, h⟩ := h; subst h; simp; done)
    | (obtain ⟨_, _, _, _, _, _, _, h⟩ := h; subst h; simp; done)
theorem eqOp_some {E : EE} {h : Hp} {t : TypeId} {op : BinOp} {x y : SV} (hq : eqOp E P h t op x y ≠ .bad) : (op = .eql ∨ op = .neq) ∧ ∃ r, eqT E P h 3 t x y = some r ∧ eqOp E P h t op x y = .bool (if op = .eql then r else !r) := by
  cases op <;> simp only [eqOp] at hq ⊢
  case eql => obtain ⟨b, h1, h2⟩ := optV_some hq; exact ⟨by simp, b, h1, by rw [h2]; simp⟩
  case neq => obtain ⟨b, h1, h2⟩ := optV_some hq; exact ⟨by simp, !b, notO_some h1, by rw [h2]; simp⟩
  all_goals exact absurd rfl hq
theorem binV_sound {E : EE} (hE : EOk P E) (H : Rel ρ N s w) {t u : TypeId} {x y : Operand} {op : BinOp} (hx : OR ρ env re x) (hy : OR ρ env re y) (h : binV E P s.h t x y op (evO x env) (evO y env) ≠ .bad) :
    ∃ v, (execOp re ⟨d, .binOp op t x y u, ty, pos, af, gd⟩).run P w = .ok (.value v) w ∧ VR ρ (binV E P s.h t x y op (evO x env) (evO y env)) v := by
  have gen : ∀ vx vy, evO x env = vx → evO y env = vy → (∀ k n, vx ≠ .int k n) → (∀ l n, vx ≠ .str l n) → (∀ i, vx ≠ .opq i) → binV E P s.h t x y op vx vy = cond (nilGuard x y vx vy) (eqOp E P s.h t op vx vy) .bad →
      ∃ v, (execOp re ⟨d, .binOp op t x y u, ty, pos, af, gd⟩).run P w = .ok (.value v) w ∧ VR ρ (binV E P s.h t x y op (evO x env) (evO y env)) v := by
    intro vx vy hvx hvy hni hns hno he
    rw [hvx, hvy] at h ⊢
    rw [he] at h ⊢
    cases hg : nilGuard x y vx vy with
    | false => rw [hg] at h; simp at h
    | true =>
      rw [hg, cond_true] at h
      rw [cond_true]
      obtain ⟨hop, r, h1, h2⟩ := eqOp_some h
      obtain ⟨n1, n2⟩ := eqT_bad h1
      obtain ⟨j1, j2⟩ := eqT_junk h1
      have rx := hx (by rw [hvx]; exact n1)
      have ry := hy (by rw [hvy]; exact n2)
      rw [hvx] at rx
      rw [hvy] at ry
      have heq : (Op.equal t (re x) (re y)).run P w = .ok r w := eqT_sound hE H 3 10000 (by omega) t vx vy (re x) (re y) r h1 (fun _ => rx) (fun _ => ry)
      refine ⟨.bool (if op = .eql then r else !r), run_guarded ?_ (binop_eql hop ?_ ?_ ?_ ?_ heq), by rw [h2]; simp [VR]⟩
      · by_cases hagg : ∃ l, re x = .agg l
        · obtain ⟨cs, rfl⟩ := (ifcOf n1 j1 rx).2.1 hagg
          obtain ⟨hgt, ds, rfl⟩ := eqT_agg hE h1
          simp only [VR] at rx ry
          obtain ⟨l, _, hl⟩ := rx
          obtain ⟨l', _, hl'⟩ := ry
          rw [hl, hl']
          exact run_eqGuard_agg w op t x y _ _ hgt
        · by_cases hnn : re x = .nilIface ∧ re y = .nilIface
          · have e1 := (ifcOf n1 j1 rx).1 hnn.1
            have e2 := (ifcOf n2 j2 ry).1 hnn.2
            rw [e1, e2] at hg
            rw [hnn.1, hnn.2]
            exact eqGuard_const hg
          · exact eqGuard_plain (fun h1 h2 => hnn ⟨h1, h2⟩) (fun xs e => hagg ⟨xs, e⟩)
      · intro k n k' m hrx
        exact absurd hrx ((plain_not (eqT_plain hno h1) hni hns rx).1 k n)
      · exact (plain_not (eqT_plain hno h1) hni hns rx).2.1
      · exact (plain_not (eqT_plain hno h1) hni hns rx).2.2.1
      · intro a b hrx
        exact absurd hrx ((plain_not (eqT_plain hno h1) hni hns rx).2.2.2 a)
  have opqc : ∀ vx vy, evO x env = vx → evO y env = vy → vx ≠ .bad → vy ≠ .bad → E.o op vx vy ≠ .bad → ((∃ i, vx = .opq i) ∨ (∃ k n, vx = .int k n) ∨ ∃ l n, vx = .str l n) →
      ∃ v, (execOp re ⟨d, .binOp op t x y u, ty, pos, af, gd⟩).run P w = .ok (.value v) w ∧ VR ρ (E.o op vx vy) v := by
    intro vx vy hvx hvy nx ny hne hpl
    have rx := hx (by rw [hvx]; exact nx)
    have ry := hy (by rw [hvy]; exact ny)
    rw [hvx] at rx
    rw [hvy] at ry
    obtain ⟨r, h1, h2⟩ := hE.op op t vx vy (re x) (re y) w ρ hne rx ry
    have hk : re x ≠ .nilIface ∧ ∀ l, re x ≠ .agg l := by
      rcases hpl with ⟨i, rfl⟩ | ⟨k, n, rfl⟩ | ⟨l, n, rfl⟩
      · simp only [VR] at rx
        rw [rx]
        rcases Opq.shape i with ⟨_, hs⟩ | ⟨_, _, _, hs⟩ | ⟨_, _, hs⟩ <;> rw [hs] <;> simp
      · simp only [VR] at rx; rw [rx]; simp
      · simp only [VR] at rx; obtain ⟨_, rx, _⟩ := rx; rw [rx]; simp
    exact ⟨r, run_guarded (eqGuard_plain (fun h => absurd h hk.1) hk.2) h1, h2⟩
  cases hvx : evO x env with
  | int k a =>
    rw [hvx] at h
    cases hvy : evO y env with
    | int k' b =>
      rw [hvy] at h
      simp only [binV] at h ⊢
      have rx := hx (by rw [hvx]; simp)
      have ry := hy (by rw [hvy]; simp)
      rw [hvx] at rx
      rw [hvy] at ry
      simp only [VR] at rx ry
      obtain ⟨v, h1, h2⟩ := intBin_sound (P := P) (ρ := ρ) (w := w) (t := t) h
      exact ⟨v, run_guarded (eqGuard_plain (by rw [rx]; simp) (by rw [rx]; simp)) (by rw [rx, ry]; exact h1), h2⟩
    | opq j => rw [hvy] at h; exact opqc _ _ hvx hvy (by simp) (by simp) h (.inr (.inl ⟨_, _, rfl⟩))
    | _ => rw [hvy] at h; exact absurd rfl h
  | str la na =>
    rw [hvx] at h
    cases hvy : evO y env with
    | str lb nb =>
      rw [hvy] at h
      simp only [binV] at h ⊢
      have rx := hx (by rw [hvx]; simp)
      have ry := hy (by rw [hvy]; simp)
      rw [hvx] at rx
      rw [hvy] at ry
      simp only [VR] at rx ry
      obtain ⟨a, hra, ha⟩ := rx
      obtain ⟨b, hrb, hb⟩ := ry
      obtain ⟨v, h1, h2⟩ := strOp_sound (P := P) (ρ := ρ) (w := w) (t := t) ha hb h
      exact ⟨v, run_guarded (eqGuard_plain (by rw [hra]; simp) (by rw [hra]; simp)) (by rw [hra, hrb]; exact h1), h2⟩
    | opq j => rw [hvy] at h; exact opqc _ _ hvx hvy (by simp) (by simp) h (.inr (.inr ⟨_, _, rfl⟩))
    | _ => rw [hvy] at h; exact absurd rfl h
  | opq i =>
    rw [hvx] at h
    cases hvy : evO y env with
    | bad => rw [hvy] at h; exact absurd rfl h
    | _ => rw [hvy] at h; exact opqc _ _ hvx hvy (by simp) (by simp) h (.inl ⟨_, rfl⟩)
  | _ => rw [← hvx]; exact gen _ _ hvx rfl (by simp) (by simp) (by simp) rfl

theorem Rel.upd (H : Rel ρ N s w) {b r base e : Nat} (hb : ρ b = some (r, base, e)) (hw : writable (s.h.get b) = true) {blk : SBlk} (hB : BR ρ base e blk w.heap[r]?) (hs : w.heap[r]?.isSome = true) : Rel ρ N (s.put b blk) w := by
  obtain ⟨o, ho⟩ := Option.isSome_iff_exists.1 hs
  rw [ho] at hB
  have := H.put hb hw hB
  rwa [putB_same w r o ho] at this
theorem RV.upd (H : Rel ρ N s w) {b r base e : Nat} (hb : ρ b = some (r, base, e)) (hw : writable (s.h.get b) = true) {blk : SBlk} (hB : BR ρ base e blk w.heap[r]?) (hs : w.heap[r]?.isSome = true) {res : Result Next} {x : SV} {v : Value}
    (h : res = .ok (.value v) w) (hv : VR ρ x v) : RV ρ N s w False res x (s.put b blk) :=
  ⟨ρ, v, w, h, hv, H.upd hb hw hB hs, Ext.put H hb _, Below.refl N w, fun h => h.elim⟩
theorem gtr_run {t : TypeId} {k : IntKind} {a b : Int} : (binOp .gtr t (.int k a) (.int k b)).run P w = .ok (.bool (decide (a > b))) w := by
  simp [binOp, Op.intCmp]
theorem forkGt_sound (H : Rel ρ N s w) {a : Int} {b off len sz : Nat} {v : Value} {res : Result Next} (hv : VR ρ (.capx b off len sz) v)
    (hres : ∀ c : Int, v = .int .i64 c → res = .ok (.value (.bool (decide (a > c)))) w) : RR P ρ N s w k0 res (forkGt a b off len sz s) := by
  simp only [VR] at hv
  obtain ⟨r, base, e, cap, hb, hlc, hcap, rfl⟩ := hv
  have hr := hres _ rfl
  unfold forkGt
  cases a with
  | negSucc n =>
    refine RV.pure H hr ?_
    simp only [VR]
    congr 1
  | ofNat n =>
    simp only
    cases hnl : Nat.ble n len with
    | true =>
      rw [cond_true]
      have := Nat.le_of_ble_eq_true hnl
      refine RV.pure H hr ?_
      simp only [VR]
      congr 1
      rw [decide_eq_false_iff_not]
      show ¬ ((n : Int) > (cap : Int))
      omega
    | false =>
      rw [cond_false]
      have hL := H.live _ _ _ _ hb
      cases hg : s.h.get b <;> rw [hg] at hL <;> try exact trivial
      rename_i tb cs ub fz st
      simp only
      cases hsm : (Nat.ble n 1048576 && Nat.ble 1 sz) with
      | false => exact trivial
      | true =>
        rw [cond_true]
        rw [Bool.and_eq_true] at hsm
        have hsz := Nat.le_of_ble_eq_true hsm.2
        obtain ⟨rc, fzr, ho, hsize, hlen, hub, hcr, hfr, hst⟩ := hL
        have hw : writable (s.h.get b) = true := by rw [hg]; rfl
        by_cases hgt : n > cap
        · left
          refine RV.upd H hb hw ?_ (by rw [ho]; rfl) hr ?_
          · refine ⟨rc, fzr, ho, hsize, hlen, fun hu => ?_, hcr, hfr, hst⟩
            rw [minN_eq] at hu ⊢
            have h1 : e ≤ base + (off + (n - 1) * sz) := by
              have : cap * sz ≤ (n - 1) * sz := Nat.mul_le_mul_right sz (by omega)
              omega
            have h2 : Nat.add off (Nat.mul (Nat.pred n) sz) = off + (n - 1) * sz := rfl
            rw [h2] at hu ⊢
            by_cases hle : ub ≤ off + (n - 1) * sz
            · rw [Nat.min_eq_left hle] at hu ⊢; exact hub hu
            · rw [Nat.min_eq_right (by omega)]; exact h1
          · simp only [VR]
            congr 1
            rw [decide_eq_true_iff]
            show (n : Int) > (cap : Int)
            omega
        · right
          refine RV.upd H hb hw ?_ (by rw [ho]; rfl) hr ?_
          · have h2 : Nat.sub (Nat.add off (Nat.mul n sz)) cs.length = off + n * sz - cs.length := rfl
            have h3 : n * sz ≤ cap * sz := Nat.mul_le_mul_right sz (by omega)
            refine ⟨rc, fzr, ho, hsize, ?_, hub, ?_, hfr, hst⟩
            · simp only [List.length_append, List.length_replicate, h2]; omega
            · intro i x hx
              by_cases hi : i < cs.length
              · rw [List.getElem?_append_left hi] at hx; exact hcr i x hx
              · rw [List.getElem?_append_right (by omega), List.getElem?_replicate, h2] at hx
                split at hx
                · rename_i hlt
                  cases hx
                  have : base + i < rc.size := by omega
                  exact ⟨rc[base + i], Array.getElem?_eq_getElem this, by simp [VR]⟩
                · cases hx
          · simp only [VR]
            congr 1
            rw [decide_eq_false_iff_not]
            show ¬ ((n : Int) > (cap : Int))
            omega
theorem bin_sound {E : EE} (hE : EOk P E) (H : Rel ρ N s w) {t u : TypeId} {x y : Operand} {op : BinOp} (hx : OR ρ env re x) (hy : OR ρ env re y) :
    RR P ρ N s w k0 ((execOp re ⟨d, .binOp op t x y u, ty, pos, af, gd⟩).run P w) (exBin E op t x y u P env s) := by
  unfold exBin
  split
  · rename_i b off len sz hvy
    split
    · rename_i a hvx
      have ry := hy (by rw [hvy]; simp)
      have rx := hx (by rw [hvx]; simp)
      rw [hvy] at ry
      rw [hvx] at rx
      simp only [VR] at rx
      refine forkGt_sound H ry fun c hc => run_guarded (eqGuard_plain (by rw [rx]; simp) (by rw [rx]; simp)) ?_
      rw [rx, hc]
      exact gtr_run
    · exact trivial
  · exact RR.rv H fun h => binV_sound hE H hx hy h
end
end Go.Sh
namespace Go.Sh
variable [Opq]
open Go.RowKit (Below)
variable {I : Rho → World → Prop}
variable {P : Program} {ρ : Rho} {N : Bound I} {s : St} {w : World} {k0 : Prop}
variable {env : En} {re : Operand → Value} {d : Option Tmp} {ty : TypeId} {pos : String} {af : Array Edge} {gd : Option (Nat × Bool)}

/-! ## type assertions -/
theorem zero_run {t : TypeId} {z : SV} (h : zeroS P t = z) (hz : z ≠ .bad) (ρ : Rho) : ∃ v, (∀ w : World, (zeroValue t).run P w = .ok v w) ∧ VR ρ z v := by
  subst h
  obtain ⟨v, h1, h2⟩ := zeroS_sound hz
  exact ⟨v, h1, h2 ρ⟩
theorem tup2 {ρ : Rho} {x y : SV} {u v : Value} (hx : VR ρ x u) (hy : VR ρ y v) : VR ρ (.tup [x, y]) (.tuple #[u, v]) := by
  simp only [VR]; exact ⟨[u, v], VRs.cons hx (VRs.cons hy VRs.nil), rfl⟩
theorem vrBool {ρ : Rho} (b : Bool) : VR ρ (.bool b) (.bool b) := by simp [VR]
theorem vrInt {ρ : Rho} (k : IntKind) (n : Int) : VR ρ (.int k n) (.int k n) := by simp [VR]
theorem assert_sound (H : Rel ρ N s w) {x : Operand} {t u : TypeId} {ok : Bool} (hx : OR ρ env re x) :
    RR P ρ N s w k0 ((execOp re ⟨d, .typeAssert x t u ok, ty, pos, af, gd⟩).run P w) (exAssert x t u ok P env s) := by
  unfold exAssert
  split
  · exact trivial
  · rename_i dd hni hu
    have hni' : ∀ ms, dd ≠ .interface ms := fun ms e => hni ms (by rw [← e])
    split
    · rename_i t' v hv
      have h := hx (by rw [hv]; simp)
      rw [hv] at h
      simp only [VR] at h
      obtain ⟨y, hy, hre⟩ := h
      cases hq : Nat.beq t' u with
      | true =>
        have := Nat.eq_of_beq_eq_true hq
        subst this
        rw [cond_true]
        cases ok with
        | true =>
          refine RV.pure H (v := .tuple #[y, .bool true]) ?_ (tup2 hy (vrBool true))
          simp only [execOp, hre]
          apply run_v
          simp only [Instr.typeAssert, Sem.run_bind, run_underlying hu, Result.andThen_ok]
          cases dd <;> first | (simp; done) | (exact absurd rfl (hni' _))
        | false =>
          refine RV.pure H (v := y) ?_ hy
          simp only [execOp, hre]
          apply run_v
          simp only [Instr.typeAssert, Sem.run_bind, run_underlying hu, Result.andThen_ok]
          cases dd <;> first | (simp; done) | (exact absurd rfl (hni' _))
      | false =>
        have hne : t' ≠ u := fun e => by subst e; simp at hq
        rw [cond_false]
        cases ok with
        | true =>
          rw [cond_true]
          split
          · exact trivial
          · rename_i z hz
            obtain ⟨zv, h1, h2⟩ := zero_run (P := P) (t := u) rfl (fun e => hz e) ρ
            refine RV.pure H (v := .tuple #[zv, .bool false]) ?_ (tup2 h2 (vrBool false))
            simp only [execOp, hre]
            apply run_v
            simp only [Instr.typeAssert, Sem.run_bind, run_underlying hu, Result.andThen_ok]
            cases dd <;> first | (simp [hne, h1]; done) | (exact absurd rfl (hni' _))
        | false => exact trivial
    · rename_i hv
      have h := hx (by rw [hv]; simp)
      rw [hv] at h
      simp only [VR] at h
      cases ok with
      | true =>
        rw [cond_true]
        split
        · exact trivial
        · rename_i z hz
          obtain ⟨zv, h1, h2⟩ := zero_run (P := P) (t := u) rfl (fun e => hz e) ρ
          refine RV.pure H (v := .tuple #[zv, .bool false]) ?_ (tup2 h2 (vrBool false))
          simp only [execOp, h]
          apply run_v
          simp only [Instr.typeAssert, Sem.run_bind, run_underlying hu, Result.andThen_ok]
          cases dd <;> first | (simp [h1]; done) | (exact absurd rfl (hni' _))
      | false => exact trivial
    · exact trivial
  · exact trivial

/-! ## indexes -/
theorem ofNat_lt {i len : Nat} (h : Nat.ble (Nat.succ i) len = true) : i < len := Nat.le_of_ble_eq_true h
theorem ixAt_sound (H : Rel ρ N s w) {e : TypeId} {b off len : Nat} {i : Option Nat} {r base e' : Nat} (hb : ρ b = some (r, base, e')) {res : Result Next}
    (hres : ∀ n sz, i = some n → size? P e = some sz → n < len → res = .ok (.value (.pointer (some ⟨r, base + off + n * sz, none⟩))) w) : RR P ρ N s w k0 res (ixAt P e s b off len i) := by
  unfold ixAt
  split
  · rename_i sz n hsz
    cases hl : Nat.ble (Nat.succ n) len with
    | false => exact trivial
    | true =>
      refine RV.pure H (hres n sz rfl hsz (ofNat_lt hl)) ?_
      simp only [VR]
      exact ⟨r, base, e', hb, by rw [Nat.add_assoc]; rfl⟩
  · exact trivial
theorem atS_some {x : SV} {b off len : Nat} (h : atS x = some (b, off, len)) {v : Value} (hv : VR ρ x v) : ∃ r base e cap, ρ b = some (r, base, e) ∧ v = .slice (some ⟨r, base + off, none⟩) len cap := by
  unfold atS at h
  split at h
  · cases h; simp only [VR] at hv; obtain ⟨r, base, e, hb, rfl⟩ := hv; exact ⟨r, base, e, _, hb, rfl⟩
  · cases h; simp only [VR] at hv; obtain ⟨r, base, e, cap, hb, _, _, rfl⟩ := hv; exact ⟨r, base, e, cap, hb, rfl⟩
  · cases h
theorem atS_ne {x : SV} {q : Nat × Nat × Nat} (h : atS x = some q) : x ≠ .bad := fun e => by subst e; simp [atS] at h
theorem indexAddr_sound (H : Rel ρ N s w) {t : TypeId} {x i : Operand} (hx : OR ρ env re x) (hi : OR ρ env re i) :
    RR P ρ N s w k0 ((execOp re ⟨d, .indexAddr t x i, ty, pos, af, gd⟩).run P w) (exIndexAddr t x i P env s) := by
  unfold exIndexAddr
  split
  · rename_i n e hu
    split
    · rename_i b off hv
      have h := hx (by rw [hv]; simp)
      rw [hv] at h
      simp only [VR] at h
      obtain ⟨r, base, e', hb, hre⟩ := h
      refine ixAt_sound H hb fun m sz hm hsz hlt => ?_
      obtain ⟨k, hk⟩ := hi.asN hm
      simp only [execOp, hre, hk]
      apply run_v
      have h1 : (0 : Int) ≤ (m : Int) ∧ (m : Int) < (n : Int) := by omega
      simp only [Instr.indexAt, asIntOf, Sem.run_bind, Sem.run_pure, Result.andThen_ok, run_underlying hu, Instr.sureAddr]
      rw [if_pos h1]
      simp [run_sizeOf hsz, add_addr]
    · exact trivial
  · rename_i e hu
    split
    · rename_i b off len hat
      obtain ⟨r, base, e', cap, hb, hre⟩ := atS_some hat (hx (atS_ne hat))
      refine ixAt_sound H hb fun m sz hm hsz hlt => ?_
      obtain ⟨k, hk⟩ := hi.asN hm
      simp only [execOp, hre, hk]
      apply run_v
      have h1 : (0 : Int) ≤ (m : Int) ∧ (m : Int) < (len : Int) := by omega
      simp only [Instr.indexAt, asIntOf, Sem.run_bind, Sem.run_pure, Result.andThen_ok, run_underlying hu]
      rw [if_pos h1]
      simp [run_sizeOf hsz, add_addr]
    · exact trivial
  · exact trivial
theorem strAt_eq {l : List UInt8} {i : Nat} {c : UInt8} (h : l[i]? = some c) : strAt (natOf l) i = c.toNat := by
  unfold strAt
  have hlt : i < l.length := (List.getElem?_eq_some_iff.1 h).1
  have h1 : Nat.div (natOf l) (Nat.pow 2 (Nat.mul 8 i)) = natOf (l.drop i) := (natOf_drop l i (by omega)).symm
  rw [h1, List.drop_eq_getElem_cons hlt]
  have : l[i] = c := by rw [List.getElem?_eq_getElem hlt] at h; simpa using h
  rw [this]
  exact natOf_mod c _
theorem getElem_data {a : ByteArray} {i : Nat} {c : UInt8} (h : a.data.toList[i]? = some c) : a[i]? = some c := by
  have hlt : i < a.data.toList.length := (List.getElem?_eq_some_iff.1 h).1
  have hlt' : i < a.size := by simpa using hlt
  rw [getElem?_pos a i hlt']
  rw [List.getElem?_eq_getElem hlt] at h
  simpa [ByteArray.getElem_eq_getElem_data] using h
theorem index_sound (H : Rel ρ N s w) {t : TypeId} {x i : Operand} (hx : OR ρ env re x) (hi : OR ρ env re i) :
    RR P ρ N s w k0 ((execOp re ⟨d, .index t x i, ty, pos, af, gd⟩).run P w) (exIndex t x i P env s) := by
  unfold exIndex
  split
  · rename_i m hu hm
    obtain ⟨k, hk⟩ := hi.asN hm
    split
    · rename_i len n hv
      have h := hx (by rw [hv]; simp)
      rw [hv] at h
      simp only [VR] at h
      obtain ⟨a, hre, hsr⟩ := h
      cases hl : Nat.ble (Nat.succ m) len with
      | false => exact trivial
      | true =>
        have hlt := ofNat_lt hl
        have hlen := SR.len hsr
        obtain ⟨c, hc⟩ : ∃ c, a.data.toList[m]? = some c := ⟨_, List.getElem?_eq_getElem (by omega)⟩
        refine RV.pure H (v := .int .u8 c.toNat) ?_ ?_
        · simp only [execOp, hre, hk]
          apply run_v
          simp [Instr.index, asIntOf, run_underlying hu, getElem_data hc]
        · simp only [VR]
          rw [← hsr.2, strAt_eq hc]
          rfl
    · exact trivial
  · rename_i len e m hu hm
    obtain ⟨k, hk⟩ := hi.asN hm
    split
    · rename_i cs n hv hsz
      have h := hx (by rw [hv]; simp)
      rw [hv] at h
      simp only [VR] at h
      obtain ⟨l, hl, hre⟩ := h
      cases hlt : Nat.ble (Nat.succ m) len with
      | false => exact trivial
      | true =>
        rw [cond_true]
        have hlt' := ofNat_lt hlt
        refine RR.rv H fun hb => ?_
        obtain ⟨v, h1, h2⟩ := partV_sound (l := l.toArray) (by simpa using hl) hb
        refine ⟨v, ?_, h2⟩
        simp only [execOp, hre, hk]
        apply run_v
        have h3 : (0 : Int) ≤ (m : Int) ∧ (m : Int) < (len : Int) := by omega
        simp only [Instr.index, asIntOf, Sem.run_bind, Sem.run_pure, Result.andThen_ok, run_underlying hu]
        rw [if_pos h3]
        simp only [Sem.run_bind, run_sizeOf hsz, Result.andThen_ok]
        exact h1 w
    · exact trivial
  · exact trivial

/-! ## slices -/
def OB (env : En) (re : Operand → Value) (ρ : Rho) (o : Option Operand) : Prop := ∀ x, o = some x → OR ρ env re x
/-- a bound: not given, or a number -/
def Bd (v : Option Value) (dflt n : Nat) : Prop := (v = none ∧ n = dflt) ∨ ∃ k, v = some (.int k n)
theorem optN_bd {o : Option Operand} {dflt n : Nat} (ho : OB env re ρ o) (h : optN dflt env o = some n) : Bd (o.map re) dflt n := by
  cases o with
  | none => simp [optN] at h; exact .inl ⟨rfl, h.symm⟩
  | some x =>
    simp only [optN] at h
    obtain ⟨k, hk⟩ := (ho x rfl).asN h
    exact .inr ⟨k, by simp [hk]⟩
theorem run_sliceBound {k : IntKind} {i y : Nat} (h : i ≤ y) (code : BoundsCode) : (Instr.sliceBound (.int k i) y code).run P w = .ok i w := by
  have : (0 : Int) ≤ (i : Int) ∧ (i : Int) ≤ (y : Int) := by omega
  simp only [Instr.sliceBound, asIntOf, Sem.run_bind, Sem.run_pure, Result.andThen_ok]
  rw [if_pos this]
  rfl
theorem run_bounds {isSlice : Bool} {len cap : Nat} {lo hi mx : Option Value} {l h m : Nat} (hl : Bd lo 0 l) (hh : Bd hi len h) (hm : Bd mx cap m) (hmx : mx ≠ none → hi ≠ none) (h1 : l ≤ h) (h2 : h ≤ m) (h3 : m ≤ cap) :
    (Instr.sliceBounds isSlice len cap lo hi mx).run P w = .ok (l, h, m) w := by
  rcases hl with ⟨rfl, rfl⟩ | ⟨kl, rfl⟩ <;> rcases hh with ⟨rfl, rfl⟩ | ⟨kh, rfl⟩ <;> rcases hm with ⟨rfl, rfl⟩ | ⟨km, rfl⟩
  all_goals first
    | (simp [Instr.sliceBounds, run_sliceBound h1, run_sliceBound h2, run_sliceBound h3]; done)
    | (simp [Instr.sliceBounds]; done)
    | (exact absurd rfl (hmx (by simp)))

theorem strCut_sound {a : ByteArray} {len n l h : Nat} (ha : SR a len n) (h1 : l ≤ h) (h2 : h ≤ len) : SR (a.extract l h) (Nat.sub h l) (Nat.mod (Nat.div n (Nat.pow 2 (Nat.mul 8 l))) (Nat.pow 2 (Nat.mul 8 (Nat.sub h l)))) := by
  have hlen := ha.len
  constructor
  · rw [ByteArray.size_extract, ha.1]
    show min h len - l = h - l
    omega
  · have hd : (a.extract l h).data.toList = (a.data.toList.drop l).take (h - l) := by
      simp [ByteArray.data_extract]
    rw [hd, natOf_take _ _ (by simp at hlen ⊢; omega), natOf_drop _ _ (by omega), ha.2]
    rfl
theorem sliceStr_sound {t : TypeId} {x : Operand} {lo hi : Option Operand} (hu : P.underlying t = some .string) {len n : Nat} (hx : OR ρ env re x) (hv : evO x env = .str len n) (hlo : OB env re ρ lo) (hhi : OB env re ρ hi)
    (h : sliceStr len n (optN 0 env lo) (optN len env hi) ≠ .bad) : ∃ v, (Instr.sliceAt t (re x) (lo.map re) (hi.map re) none).run P w = .ok v w ∧ VR ρ (sliceStr len n (optN 0 env lo) (optN len env hi)) v := by
  have hx' := hx (by rw [hv]; simp)
  rw [hv] at hx'
  simp only [VR] at hx'
  obtain ⟨a, hre, hsr⟩ := hx'
  unfold sliceStr at h ⊢
  split at h
  · rename_i l hh hl hhh
    have b1 := optN_bd hlo hl
    have b2 := optN_bd hhi hhh
    cases hc : (leN l hh && leN hh len) with
    | false => rw [hc] at h; simp at h
    | true =>
      simp only [cond_true]
      simp only [leN, Bool.and_eq_true] at hc
      have c1 := Nat.le_of_ble_eq_true hc.1
      have c2 := Nat.le_of_ble_eq_true hc.2
      refine ⟨.string (a.extract l hh), ?_, ?_⟩
      · have hb2 : Bd (hi.map re) a.size hh := by rw [hsr.1]; exact b2
        have hrun := run_bounds (P := P) (w := w) (isSlice := false) (len := a.size) (cap := a.size) b1 hb2 (mx := none) (m := a.size) (.inl ⟨rfl, rfl⟩) (by simp) c1 (by rw [hsr.1]; exact c2) (Nat.le_refl _)
        simp [Instr.sliceAt, run_underlying hu, hre, Instr.slice, hrun]
      · simp only [strCut, VR]
        exact ⟨_, rfl, strCut_sound hsr c1 c2⟩
  · exact absurd rfl h
theorem sliceQ_sound {E : EE} (hE : EOk P E) {t : TypeId} {x : Operand} {lo hi : Option Operand} (hu : P.underlying t = some .string) {i : Nat} (hx : OR ρ env re x) (hv : evO x env = .opq i) (hlo : OB env re ρ lo) (hhi : OB env re ρ hi)
    (h : sliceQ E (.opq i) (optN 0 env lo) (optH env hi) ≠ .bad) : ∃ v, (Instr.sliceAt t (re x) (lo.map re) (hi.map re) none).run P w = .ok v w ∧ VR ρ (sliceQ E (.opq i) (optN 0 env lo) (optH env hi)) v := by
  have hx' := hx (by rw [hv]; simp)
  rw [hv] at hx'
  simp only [VR] at hx'
  cases hl : optN 0 env lo with
  | none => rw [hl] at h; exact absurd rfl h
  | some l =>
    cases hh : optH env hi with
    | none => rw [hl, hh] at h; exact absurd rfl h
    | some hh' =>
      rw [hl, hh] at h
      simp only [sliceQ] at h ⊢
      obtain ⟨a, ha, c1, c2, h2⟩ := hE.sl i l hh' ρ h
      have hre : re x = .string a := by rw [hx', ha]
      have b1 := optN_bd hlo hl
      have hb2 : Bd (hi.map re) a.size (hh'.getD a.size) := by
        have hq : optN a.size env hi = some (hh'.getD a.size) := by
          unfold optH at hh
          unfold optN
          cases hi with
          | none => simp at hh; subst hh; rfl
          | some o =>
            simp only at hh ⊢
            split at hh
            · rename_i n hn; cases hh; rw [hn]; rfl
            · cases hh
        exact optN_bd hhi hq
      refine ⟨_, ?_, h2⟩
      have hrun := run_bounds (P := P) (w := w) (isSlice := false) (len := a.size) (cap := a.size) b1 hb2 (mx := none) (m := a.size) (.inl ⟨rfl, rfl⟩) (by simp) c1 c2 (Nat.le_refl _)
      simp [Instr.sliceAt, run_underlying hu, hre, Instr.slice, hrun]
theorem slcAt_sound {b off sz l h m r base e : Nat} (hb : ρ b = some (r, base, e)) (h1 : l ≤ h) (_h2 : h ≤ m) :
    VR ρ (slcAt b off sz l h m) (.slice (some (if m = l then ⟨r, base + off, none⟩ else ⟨r, base + off + l * sz, none⟩)) (h - l) (m - l)) := by
  unfold slcAt
  cases hq : Nat.beq m l with
  | true =>
    have := Nat.eq_of_beq_eq_true hq
    rw [cond_true, if_pos this]
    simp only [VR]
    exact ⟨r, base, e, hb, rfl⟩
  | false =>
    have : m ≠ l := fun e => by subst e; simp at hq
    rw [cond_false, if_neg this]
    simp only [VR]
    exact ⟨r, base, e, hb, by rw [Nat.add_assoc]; rfl⟩
theorem sliceC_some {b off cap sz : Nat} {l h m : Option Nat} (hne : sliceC b off cap sz l h m ≠ .bad) : ∃ l' h' m', l = some l' ∧ h = some h' ∧ m = some m' ∧ l' ≤ h' ∧ h' ≤ m' ∧ m' ≤ cap ∧ sliceC b off cap sz l h m = slcAt b off sz l' h' m' := by
  unfold sliceC at hne ⊢
  split at hne
  · rename_i l' h' m'
    cases hc : (leN l' h' && leN h' m' && leN m' cap) with
    | false => rw [hc] at hne; simp at hne
    | true =>
      simp only [leN, Bool.and_eq_true] at hc
      refine ⟨l', h', m', rfl, rfl, rfl, Nat.le_of_ble_eq_true hc.1.1, Nat.le_of_ble_eq_true hc.1.2, Nat.le_of_ble_eq_true hc.2, ?_⟩
      simp
  · exact absurd rfl hne
/-- the model's slicing of a slice -/
theorem run_slice_slice {t e : TypeId} (hu : P.underlying t = some (.slice e)) {sz : Nat} (hsz : size? P e = some sz) {a : Option Addr} {len cap l h m : Nat} {lo hi mx : Option Value}
    (hl : Bd lo 0 l) (hh : Bd hi len h) (hm : Bd mx cap m) (hmx : mx ≠ none → hi ≠ none) (h1 : l ≤ h) (h2 : h ≤ m) (h3 : m ≤ cap) :
    (Instr.sliceAt t (.slice a len cap) lo hi mx).run P w = .ok (.slice (if m = l then a else a.map (·.add (l * sz))) (h - l) (m - l)) w := by
  have hrun := run_bounds (P := P) (w := w) (isSlice := true) hl hh hm hmx h1 h2 h3
  simp only [Instr.sliceAt, Sem.run_bind, run_underlying hu, Result.andThen_ok, Instr.slice, hrun, run_sizeOf hsz, Sem.run_pure]
theorem run_slice_array {t e : TypeId} {n : Nat} (hu : P.underlying t = some (.array n e)) {sz : Nat} (hsz : size? P e = some sz) {a : Addr} {l h m : Nat} {lo hi mx : Option Value}
    (hl : Bd lo 0 l) (hh : Bd hi n h) (hm : Bd mx n m) (hmx : mx ≠ none → hi ≠ none) (h1 : l ≤ h) (h2 : h ≤ m) (h3 : m ≤ n) :
    (Instr.sliceAt t (.pointer (some a)) lo hi mx).run P w = .ok (.slice (some (if m = l then a else a.add (l * sz))) (h - l) (m - l)) w := by
  have hrun := run_bounds (P := P) (w := w) (isSlice := false) hl hh hm hmx h1 h2 h3
  simp only [Instr.sliceAt, Sem.run_bind, run_underlying hu, Result.andThen_ok, Instr.sureAddr, Sem.run_pure, hrun, run_sizeOf hsz]
theorem slice_sound {E : EE} (hE : EOk P E) (H : Rel ρ N s w) {t : TypeId} {x : Operand} {lo hi mx : Option Operand} (hx : OR ρ env re x) (hlo : OB env re ρ lo) (hhi : OB env re ρ hi) (hmx : OB env re ρ mx) :
    RR P ρ N s w k0 ((execOp re ⟨d, .slice t x lo hi mx, ty, pos, af, gd⟩).run P w) (exSlice E t x lo hi mx P env s) := by
  unfold exSlice
  split
  · exact trivial
  rename_i hne
  have hform' : mx.map re ≠ none → hi.map re ≠ none := fun h => by
    cases mx with
    | none => simp at h
    | some y =>
      cases hi with
      | none => exact absurd rfl (hne y rfl)
      | some z => simp
  refine RR.rv H fun h => ?_
  have fin : ∀ {v : Value}, (Instr.sliceAt t (re x) (lo.map re) (hi.map re) (mx.map re)).run P w = .ok v w →
      (execOp re ⟨d, .slice t x lo hi mx, ty, pos, af, gd⟩).run P w = .ok (.value v) w := fun hv => by simp only [execOp]; exact run_v hv
  unfold sliceS at h ⊢
  split at h
  · rename_i hu
    split at h
    · rename_i len n hv
      obtain ⟨v, h1, h2⟩ := sliceStr_sound (w := w) hu hx hv hlo hhi h
      exact ⟨v, fin (by simpa using h1), h2⟩
    · rename_i i hv
      obtain ⟨v, h1, h2⟩ := sliceQ_sound (w := w) hE hu hx hv hlo hhi h
      exact ⟨v, fin (by simpa using h1), h2⟩
    · exact absurd rfl h
  · rename_i e hu
    split at h
    · rename_i sz hsz
      split at h
      · -- nil
        rename_i hv
        have hxv := hx (by rw [hv]; simp)
        rw [hv] at hxv
        simp only [VR] at hxv
        split at h
        · rename_i q1 q2 q3
          refine ⟨.slice none 0 0, fin ?_, by simp [VR]⟩
          rw [hxv, run_slice_slice hu hsz (optN_bd hlo q1) (optN_bd hhi q2) (optN_bd hmx q3) hform' (Nat.le_refl _) (Nat.le_refl _) (Nat.le_refl _)]
          simp
        · exact absurd rfl h
      · -- emp
        rename_i hv
        have hxv := hx (by rw [hv]; simp)
        rw [hv] at hxv
        simp only [VR] at hxv
        obtain ⟨a, cap, hre⟩ := hxv
        split at h
        · rename_i q1 q2
          refine ⟨.slice (if cap = 0 then some a else (some a).map (·.add (0 * sz))) 0 cap, fin ?_, by simp only [VR]; by_cases h0 : cap = 0 <;> simp [h0]⟩
          rw [hre]
          exact run_slice_slice hu hsz (optN_bd hlo q1) (optN_bd hhi q2) (m := cap) (.inl ⟨rfl, rfl⟩) (by simp) (Nat.le_refl _) (Nat.zero_le _) (Nat.le_refl _)
        · exact absurd rfl h
      · -- slc
        rename_i b off len cap hv
        have hxv := hx (by rw [hv]; simp)
        rw [hv] at hxv
        simp only [VR] at hxv
        obtain ⟨r, base, e', hb, hre⟩ := hxv
        obtain ⟨l', h', m', q1, q2, q3, c1, c2, c3, he⟩ := sliceC_some h
        rw [he]
        have hrun := run_slice_slice (w := w) hu hsz (a := some ⟨r, base + off, none⟩) (cap := cap) (optN_bd hlo q1) (optN_bd hhi q2) (optN_bd hmx q3) hform' c1 c2 c3
        refine ⟨_, fin (by rw [hre]; exact hrun), ?_⟩
        have := slcAt_sound (sz := sz) hb c1 c2 (off := off)
        by_cases hml : m' = l'
        · rw [if_pos hml] at this ⊢; exact this
        · rw [if_neg hml] at this ⊢
          show VR ρ _ (Value.slice (some (Addr.add ⟨r, base + off, none⟩ (l' * sz))) _ _)
          rw [add_addr]; exact this
      · -- slo
        rename_i b off len sz' hv
        have hxv := hx (by rw [hv]; simp)
        rw [hv] at hxv
        simp only [VR] at hxv
        obtain ⟨r, base, e', cap, hb, hlc, hcap, hre⟩ := hxv
        cases hq : Nat.beq sz sz' with
        | false => rw [hq] at h; simp at h
        | true =>
          have := Nat.eq_of_beq_eq_true hq
          subst this
          rw [hq, cond_true] at h
          rw [cond_true]
          split at h
          · -- two indexes
            unfold sliceO at h ⊢
            split at h
            · rename_i l' h' q1 q2
              cases hc : (leN l' h' && (leN h' len || leN h' (knownIn s b off sz))) with
              | false => rw [hc] at h; simp at h
              | true =>
                simp only [hc, cond_true] at h ⊢
                rw [Bool.and_eq_true, Bool.or_eq_true] at hc
                have c1 : l' ≤ h' := Nat.le_of_ble_eq_true hc.1
                have c2 : h' ≤ cap := by
                  rcases hc.2 with h2 | h2
                  · have : h' ≤ len := Nat.le_of_ble_eq_true h2
                    omega
                  · have h3 : h' ≤ knownIn s b off sz := Nat.le_of_ble_eq_true h2
                    unfold knownIn at h3
                    have hL := H.live _ _ _ _ hb
                    cases hg : s.h.get b <;> rw [hg] at hL h3
                    case opn tb cs ub fz st =>
                      simp only at h3
                      obtain ⟨rc, fzr, ho, hsize, hlen, _⟩ := hL
                      have h4 : h' ≤ (cs.length - off) / sz := h3
                      by_cases hs0 : sz = 0
                      · subst hs0; simp at h4; omega
                      · have h5 : h' * sz ≤ cs.length - off := (Nat.le_div_iff_mul_le (by omega)).1 h4
                        have h6 : h' * sz ≤ cap * sz := by omega
                        exact Nat.le_of_mul_le_mul_right h6 (by omega)
                    all_goals (simp at h3; omega)
                have hrun := run_slice_slice (w := w) hu hsz (a := some ⟨r, base + off, none⟩) (cap := cap) (optN_bd hlo q1) (optN_bd hhi q2) (mx := none) (m := cap) (.inl ⟨rfl, rfl⟩) (by simp) c1 c2 (Nat.le_refl _)
                cases hk : (Nat.ble (Nat.succ l') len || Nat.beq l' 0) with
                | true =>
                  simp only [cond_true]
                  refine ⟨_, fin (by rw [hre]; exact hrun), ?_⟩
                  rw [Bool.or_eq_true] at hk
                  simp only [VR]
                  refine ⟨r, base, e', cap - l', hb, ?_, ?_, ?_⟩
                  · show h' - l' ≤ cap - l'; omega
                  · show base + (off + l' * sz) + (cap - l') * sz = e'
                    rw [Nat.sub_mul]
                    have : l' * sz ≤ cap * sz := Nat.mul_le_mul_right sz (by omega)
                    omega
                  · have hadd : (base + (off + l' * sz)) = base + off + l' * sz := by omega
                    rcases hk with hk | hk
                    · have : l' < len := Nat.le_of_ble_eq_true hk
                      rw [if_neg (by omega)]
                      show Value.slice (some (Addr.add ⟨r, base + off, none⟩ (l' * sz))) _ _ = _
                      rw [add_addr, ← hadd]; rfl
                    · have : l' = 0 := Nat.eq_of_beq_eq_true hk
                      subst this
                      by_cases h0 : cap = 0
                      · rw [if_pos h0]; simp
                      · rw [if_neg h0]
                        show Value.slice (some (Addr.add ⟨r, base + off, none⟩ (0 * sz))) _ _ = _
                        rw [add_addr, ← hadd]; rfl
                | false =>
                  simp only [hk, cond_false] at h ⊢
                  cases hlh : Nat.beq l' h' with
                  | false => rw [hlh] at h; simp at h
                  | true =>
                    have := Nat.eq_of_beq_eq_true hlh
                    subst this
                    rw [cond_true]
                    refine ⟨_, fin (by rw [hre]; exact hrun), ?_⟩
                    simp only [VR]
                    by_cases hm : cap = l'
                    · rw [if_pos hm]; exact ⟨⟨r, base + off, none⟩, cap - l', by simp⟩
                    · rw [if_neg hm]; exact ⟨(⟨r, base + off, none⟩ : Addr).add (l' * sz), cap - l', by simp⟩
            · exact absurd rfl h
          · -- three indexes
            rename_i mo
            obtain ⟨l', h', m', q1, q2, q3, c1, c2, c3, he⟩ := sliceC_some h
            rw [he]
            obtain ⟨km, hkm⟩ := (hmx mo rfl).asN q3
            have hrun := run_slice_slice (w := w) hu hsz (a := some ⟨r, base + off, none⟩) (cap := cap) (optN_bd hlo q1) (optN_bd hhi q2) (mx := some (re mo)) (m := m') (.inr ⟨km, by rw [hkm]⟩) hform' c1 c2 (by omega)
            refine ⟨_, fin (by rw [hre]; exact hrun), ?_⟩
            have := slcAt_sound (sz := sz) hb c1 c2 (off := off)
            by_cases hml : m' = l'
            · rw [if_pos hml] at this ⊢; exact this
            · rw [if_neg hml] at this ⊢
              show VR ρ _ (Value.slice (some (Addr.add ⟨r, base + off, none⟩ (l' * sz))) _ _)
              rw [add_addr]; exact this
      · exact absurd rfl h
    · exact absurd rfl h
  · rename_i n e hu
    split at h
    · rename_i sz b off hsz hv
      have hxv := hx (by rw [hv]; simp)
      rw [hv] at hxv
      simp only [VR] at hxv
      obtain ⟨r, base, e', hb, hre⟩ := hxv
      obtain ⟨l', h', m', q1, q2, q3, c1, c2, c3, he⟩ := sliceC_some h
      rw [he]
      have hrun := run_slice_array (w := w) hu hsz (a := ⟨r, base + off, none⟩) (optN_bd hlo q1) (optN_bd hhi q2) (optN_bd hmx q3) hform' c1 c2 c3
      refine ⟨_, fin (by rw [hre]; exact hrun), ?_⟩
      have := slcAt_sound (sz := sz) hb c1 c2 (off := off)
      by_cases hml : m' = l'
      · rw [if_pos hml] at this ⊢; exact this
      · rw [if_neg hml] at this ⊢
        rw [add_addr]; exact this
    · exact absurd rfl h
  · exact absurd rfl h
end Go.Sh
namespace Go.Sh
variable [Opq]
open Go.RowKit (Below)
variable {I : Rho → World → Prop}
variable {P : Program} {ρ : Rho} {N : Bound I} {s : St} {w : World} {k0 : Prop}
variable {env : En} {re : Operand → Value} {d : Option Tmp} {ty : TypeId} {pos : String} {af : Array Edge} {gd : Option (Nat × Bool)}

/-! ## bytes -/
def byteV (b : UInt8) : Value := .int .u8 b.toNat
theorem bytesSV_sound {ρ : Rho} : ∀ (l : List UInt8), VRs ρ (bytesSV l.length (natOf l)) (l.map byteV)
  | [] => VRs.nil
  | c :: cs => by
    simp only [List.length_cons, bytesSV, List.map_cons]
    refine VRs.cons ?_ ?_
    · simp only [VR, byteV]
      have : Nat.mod (natOf (c :: cs)) 256 = c.toNat := natOf_mod c cs
      rw [this]; rfl
    · have : Nat.div (natOf (c :: cs)) 256 = natOf cs := natOf_div c cs
      rw [this]
      exact bytesSV_sound cs
theorem bytesSV_len : ∀ (l n : Nat), (bytesSV l n).length = l
  | 0, _ => rfl
  | l + 1, n => by simp [bytesSV, bytesSV_len l]
/-- cells that are bytes -/
theorem packSV_sound {ρ : Rho} : ∀ (cs : List SV) (n : Nat) (l : List Value), packSV cs = some n → VRs ρ cs l → ∃ bs : List UInt8, l = bs.map byteV ∧ natOf bs = n
  | [], n, l, h, hv => by
    simp [packSV] at h
    rw [VRs.nil_iff] at hv
    subst h hv
    exact ⟨[], rfl, rfl⟩
  | c :: cs, n, l, h, hv => by
    obtain ⟨v, vs, h1, h2, rfl⟩ := hv.cons_inv
    simp only [packSV] at h
    split at h
    · rename_i m
      cases hle : Nat.ble m 255 with
      | false => rw [hle] at h; simp at h
      | true =>
        rw [hle, cond_true] at h
        split at h
        · rename_i k hk
          cases h
          obtain ⟨bs, rfl, hbs⟩ := packSV_sound cs k vs hk h2
          have hm := Nat.le_of_ble_eq_true hle
          refine ⟨UInt8.ofNat m :: bs, ?_, ?_⟩
          · simp only [List.map_cons, VR] at h1 ⊢
            rw [h1]
            congr 1
            simp only [byteV]
            congr 1
            have : (UInt8.ofNat m).toNat = m := by simp; omega
            rw [this]; rfl
          · rw [natOf_cons, hbs]
            have : (UInt8.ofNat m).toNat = m := by simp; omega
            rw [this]; rfl
        · cases h
    · cases h
theorem strOf_some {len : Nat} {o : Option (List SV)} (h : strOf len o ≠ .bad) : ∃ cs n, o = some cs ∧ packSV cs = some n ∧ strOf len o = .str len n := by
  unfold strOf at h ⊢
  split at h
  · rename_i cs
    split at h
    · rename_i n hn
      refine ⟨cs, n, rfl, hn, ?_⟩
      simp
    · exact absurd rfl h
  · exact absurd rfl h
theorem atS_readN (H : Rel ρ N s w) {x : SV} {b off len n : Nat} {v : Value} {ds : List SV} (hat : atS x = some (b, off, len)) (hv : VR ρ x v) (h : readN s b off n = some ds) :
    ∃ a cap, v = .slice (some a) len cap ∧ ∃ l : List Value, (loadCells a n).run P w = .ok l.toArray w ∧ VRs ρ ds l := by
  obtain ⟨r, base, e, cap, hb, rfl⟩ := atS_some hat hv
  obtain ⟨l, h1, h2⟩ := readN_sound (P := P) H h hb
  exact ⟨_, cap, rfl, l, h1, h2⟩
theorem run_bytesBack {a : Addr} {len cap : Nat} {bs : List UInt8} (h : (loadCells a len).run P w = .ok (bs.map byteV).toArray w) : (Conv.bytesToString (.slice (some a) len cap)).run P w = .ok (.string ⟨bs.toArray⟩) w := by
  have h' : (loadCells a len).run P w = .ok ((bs.map (fun b => (b.toNat : Int))).map (Value.int .u8)).toArray w := by
    rw [h]; congr 2; simp [byteV]
  rw [run_bytesToString w a len cap _ h', foldl_push_byteCells]
  have he0 : ByteArray.empty.data = #[] := rfl
  rw [he0]
  simp
theorem alloc_eq (w : World) (o : Obj) : w.alloc o = newB w o := rfl
theorem Rel.drew (H : Rel ρ N s w) : Rel ρ N s w.drew := H.drawn _
theorem Below.newDrew (hN : N ≤ w.heap.size) (o : Obj) : Below N w (Sh.newB w.drew o) := (Below.drawn _).trans (Below.newB (w := w.drew) hN)
theorem strAt_out {l : List UInt8} {i : Nat} (h : l.length ≤ i) : strAt (natOf l) i = 0 := by
  unfold strAt
  have h1 := natOf_lt l
  have h2 : 2 ^ (8 * l.length) ≤ 2 ^ (8 * i) := Nat.pow_le_pow_right (by omega) (by omega)
  have h3 : Nat.div (natOf l) (Nat.pow 2 (Nat.mul 8 i)) = 0 := Nat.div_eq_of_lt (Nat.lt_of_lt_of_le h1 h2)
  rw [h3]
theorem get_strAt {a : ByteArray} {len n : Nat} (ha : SR a len n) (i : Nat) : (a.get! i).toNat = strAt n i := by
  rw [← ha.2]
  by_cases h : i < a.data.toList.length
  · rw [strAt_eq (List.getElem?_eq_getElem h)]
    have h' : i < a.data.size := by simpa using h
    congr 1
    show a.data[i]! = _
    rw [getElem!_pos a.data i h']
    simp
  · rw [strAt_out (by omega)]
    have h' : ¬ i < a.data.size := by simpa using h
    have : a.get! i = default := by
      show a.data[i]! = _
      rw [getElem!_neg a.data i h']
    rw [this]
    rfl
theorem ble_dec (a b : Nat) : Nat.ble a b = decide (a ≤ b) := by
  cases h : Nat.ble a b with
  | true => exact (decide_eq_true (Nat.le_of_ble_eq_true h)).symm
  | false =>
    symm
    rw [decide_eq_false_iff_not]
    intro hle
    rw [Nat.ble_eq_true_of_le hle] at h; cases h
theorem beq_dec (a b : Nat) : Nat.beq a b = (a == b) := by
  cases h : Nat.beq a b with
  | true => rw [Nat.eq_of_beq_eq_true h]; simp
  | false =>
    symm
    rw [beq_eq_false_iff_ne]
    intro e
    subst e
    simp at h
theorem decS_eq {a : ByteArray} {len n : Nat} (ha : SR a len n) (i : Nat) : decS len n i = Utf8.decode a i := by
  have hg := get_strAt ha
  unfold decS Utf8.decode
  simp only [hg, ha.1, ble_dec, beq_dec, Bool.cond_eq_ite, Bool.and_eq_true, decide_eq_true_eq, beq_iff_eq, Nat.add_one_le_iff, ge_iff_le]
/-! ## runes -/
theorem BR.grown0 {e : Nat} {xs : List SV} {cs rest : Array Value} (h : VRs ρ xs cs.toList) : BR ρ 0 (cs.size + rest.size) (.opn e xs big 0 false) (some (.cells (cs ++ rest) e (0, 0))) := by
  have hl := h.len
  simp only [Array.length_toList] at hl
  refine ⟨cs ++ rest, (0, 0), rfl, by simp, by omega, fun k => absurd k (Nat.lt_irrefl _), ?_, fun i _ _ k => absurd k.2 (Nat.not_lt_zero _), fun _ => Nat.zero_le _⟩
  intro i x hx
  obtain ⟨v, h1, h2⟩ := h.get i x hx
  have hlt := (List.getElem?_eq_some_iff.1 h1).1
  simp only [Array.length_toList] at hlt
  refine ⟨v, ?_, h2⟩
  rw [Nat.zero_add, Array.getElem?_append_left hlt, ← Array.getElem?_toList]
  exact h1
theorem runesSV_sound {ρ : Rho} {a : ByteArray} {len n : Nat} (ha : SR a len n) : ∀ (f i : Nat) (acc : Array Value), ∃ l : List Value, Conv.runesFrom a f i acc = acc ++ l.toArray ∧ VRs ρ (runesSV len n f i) l
  | 0, i, acc => ⟨[], by simp [Conv.runesFrom], by simp only [runesSV]; exact VRs.nil⟩
  | f + 1, i, acc => by
    simp only [runesSV, Conv.runesFrom, ha.1, ble_dec, Nat.succ_le_iff]
    by_cases h : i < len
    · rw [if_pos h, decide_eq_true h, cond_true, decS_eq ha i]
      obtain ⟨l, h1, h2⟩ := runesSV_sound ha f (i + (Utf8.decode a i).2) (acc.push (.int .i32 (Int.ofNat (Utf8.decode a i).1)))
      refine ⟨.int .i32 (Int.ofNat (Utf8.decode a i).1) :: l, ?_, VRs.cons (by simp [VR]) h2⟩
      show Conv.runesFrom a f (i + (Utf8.decode a i).2) (acc.push (.int .i32 (Int.ofNat (Utf8.decode a i).1))) = _
      rw [h1]
      simp
    · rw [if_neg h, decide_eq_false h, cond_false]
      exact ⟨[], by simp, VRs.nil⟩
theorem runesBytes_from (ns : List Int) : ∀ acc : ByteArray, ns.foldl (fun r n => r ++ Utf8.encode n) acc = acc ++ runesBytes ns := by
  induction ns with
  | nil => intro acc; simp [runesBytes]
  | cons n ns ih =>
    intro acc
    have h1 := ih (acc ++ Utf8.encode n)
    have h2 := ih (ByteArray.empty ++ Utf8.encode n)
    simp only [List.foldl_cons, runesBytes] at *
    rw [h1, h2]
    simp [ByteArray.append_assoc]
theorem runesBytes_cons (n : Int) (ns : List Int) : runesBytes (n :: ns) = Utf8.encode n ++ runesBytes ns := by
  have := runesBytes_from ns (ByteArray.empty ++ Utf8.encode n)
  simp only [runesBytes, List.foldl_cons] at *
  rw [this]
  simp
theorem encAll_sound {ρ : Rho} : ∀ (cs : List SV) (l : List Value), encAll cs ≠ .bad → VRs ρ cs l → ∃ (ns : List Int) (len n : Nat), l = ns.map (Value.int .i32) ∧ encAll cs = .str len n ∧ SR (runesBytes ns) len n
  | [], l, _, hv => by
    rw [VRs.nil_iff] at hv
    subst hv
    exact ⟨[], 0, 0, rfl, rfl, rfl, rfl⟩
  | c :: cs, l, h, hv => by
    obtain ⟨v, vs, h1, h2, rfl⟩ := hv.cons_inv
    simp only [encAll] at h ⊢
    split at h
    · rename_i r
      split at h
      · rename_i a n b m he hr
        obtain ⟨ns, len, k, rfl, h3, h4⟩ := encAll_sound cs vs (by rw [hr]; simp) h2
        simp only [VR] at h1
        subst h1
        rw [hr] at h3
        cases h3
        simp only [encS, ofV1] at he ⊢
        cases he
        refine ⟨r :: ns, _, _, rfl, rfl, ?_⟩
        rw [runesBytes_cons]
        obtain ⟨h5, h6⟩ := h4
        refine ⟨by simp [ByteArray.size_append, h5], ?_⟩
        rw [ByteArray.data_append, Array.toList_append, natOf_append, h6]
        rfl
      · exact absurd rfl h
    · exact absurd rfl h
theorem optEnc_some {o : Option (List SV)} (h : optEnc o ≠ .bad) : ∃ cs, o = some cs ∧ optEnc o = encAll cs := by
  cases o with
  | none => exact absurd rfl h
  | some cs => exact ⟨cs, rfl, rfl⟩
/-! ## pointers without a type -/
theorem inB_some {s : St} {w : World} {b off r base e : Nat} (H : Rel ρ N s w) (hb : ρ b = some (r, base, e)) (h : inB (s.h.get b) off = true) :
    ∃ rc ty fz, w.heap[r]? = some (.cells rc ty fz) ∧ base + off < rc.size := by
  unfold inB at h
  split at h
  · rename_i cs hc
    obtain ⟨rc, ty, fz, h1, h2⟩ := read_block H hc hb
    have hlt : off < cs.length := Nat.le_of_ble_eq_true h
    obtain ⟨v, h3, _⟩ := h2 off _ (List.getElem?_eq_getElem hlt)
    exact ⟨rc, ty, fz, h1, (Array.getElem?_eq_some_iff.1 h3).1⟩
  · cases h
theorem shape_at {w : World} {r ty : Nat} {rc : Array Value} {fz : Nat × Nat} (h : w.heap[r]? = some (.cells rc ty fz)) : w.shape? r = some (ty, rc.size) := by
  simp [World.shape?, h]
theorem run_seenAt {w : World} {r o : Nat} {sh : TypeId × Nat} (h : w.shape? r = some sh) : (Conv.seenAt ⟨r, o, none⟩).run P w = .ok ⟨r, o, none⟩ w := by
  simp [Conv.seenAt, viewAt, h]
theorem nzS_some {o : Option Nat} (h : nzS o = true) : ∃ n, o = some (n + 1) := by
  cases o with
  | none => cases h
  | some n => cases n with
    | zero => cases h
    | succ n => exact ⟨n, rfl⟩
theorem toUnsafe_run {w : World} {src dst t : TypeId} {r o n : Nat} {ty : TypeId} {rc : Array Value} {fz : Nat × Nat} (hs : P.underlying src = some (.pointer t)) (hd : P.underlying dst = some .unsafePointer)
    (h : w.heap[r]? = some (.cells rc ty fz)) (hlt : o < rc.size) (hz : size? P t = some (n + 1)) :
    (convert src dst (.pointer (some ⟨r, o, none⟩))).run P w = .ok (.pointer (some ⟨r, o, none⟩)) w := by
  have hsh := shape_at h
  have hno : ¬ rc.size ≤ o := by omega
  simp [convert, run_underlying hs, run_underlying hd, Conv.unsafePointer, run_seenAt hsh, cellsIn, hsh, hno, run_sizeOf hz]
theorem liesAt_head {e cells n : Nat} (hc : P.cellsOf e = n + 1) (h : n + 1 ≤ cells) : liesAt P P.depth e (cells / P.cellsOf e) 0 e 1 = true := by
  have hd : P.depth = (2 * (P.types.size + Made.depth) + 1) + 1 := rfl
  rw [hd]
  simp only [liesAt, Bool.or_eq_true]
  left
  rw [hd]
  have hq : 1 ≤ cells / (n + 1) := (Nat.le_div_iff_mul_le (by omega)).2 (by omega)
  simp [rowAt, hc, sameLayout, hq]
theorem size?_cellsOf {t : TypeId} {n : Nat} (h : size? P t = some n) : P.cellsOf t = n := by
  obtain ⟨i, hi, hs⟩ := size?_some h
  simp [Program.cellsOf, hi, hs]
theorem ofUnsafe_run {w : World} {src dst u : TypeId} {r n : Nat} {rc : Array Value} {fz : Nat × Nat} (hs : P.underlying src = some .unsafePointer) (hd : P.underlying dst = some (.pointer u))
    (h : w.heap[r]? = some (.cells rc u fz)) (hz : size? P u = some (n + 1)) (hle : n + 1 ≤ rc.size) :
    (convert src dst (.pointer (some ⟨r, 0, none⟩))).run P w = .ok (.pointer (some ⟨r, 0, none⟩)) w := by
  have hsh := shape_at h
  have hl := liesAt_head (P := P) (size?_cellsOf hz) hle
  simp [convert, run_underlying hs, run_underlying hd, Conv.unsafePointer, run_seenAt hsh, variablesAt, hsh, hl, run_sizeOf hz]
theorem headB_some {u off : Nat} {sz : Option Nat} {blk : SBlk} (h : headB u sz off blk = true) : ∃ cs n, blk = .cells u cs ∧ off = 0 ∧ sz = some (n + 1) ∧ n + 1 ≤ cs.length := by
  unfold headB at h
  split at h
  · rename_i t cs
    cases h1 : Nat.beq t u with
    | false => rw [h1] at h; cases h
    | true =>
      rw [h1, cond_true] at h
      cases h2 : Nat.beq off 0 with
      | false => rw [h2] at h; cases h
      | true =>
        rw [h2, cond_true] at h
        split at h
        · rename_i n
          exact ⟨cs, n, by rw [Nat.eq_of_beq_eq_true h1], Nat.eq_of_beq_eq_true h2, rfl, Nat.le_of_ble_eq_true h⟩
        · cases h
  · cases h
theorem conv_sound {E : EE} (hE : EOk P E) (H : Rel ρ N s w) {src dst : TypeId} {x : Operand} (hx : OR ρ env re x) :
    RR P ρ N s w k0 ((execOp re ⟨d, .convert src dst x, ty, pos, af, gd⟩).run P w) (exConv E src dst x P env s) := by
  unfold exConv convS
  split
  · -- to a number
    rename_i ds k hs hd
    split
    · rename_i k' n hv
      have h := hx (by rw [hv]; simp)
      rw [hv] at h
      simp only [VR] at h
      refine RV.pure H (v := .int k (k.wrap n)) ?_ (by simp [VR, wrapF_eq])
      simp only [execOp, h]
      apply run_v
      simp [convert, run_underlying hs, run_underlying hd, Conv.intToInt]
    · rename_i i hv
      have h := hx (by rw [hv]; simp)
      rw [hv] at h
      simp only [VR] at h
      refine RR.rv H fun hb => ?_
      obtain ⟨k0, n, h1, h2⟩ := hE.cv k i ρ hb
      refine ⟨_, ?_, h2⟩
      simp only [execOp, h, h1]
      apply run_v
      simp [convert, run_underlying hs, run_underlying hd, Conv.intToInt]
    · exact trivial
  · rename_i hs hd
    split
    · rename_i l n hv
      have h := hx (by rw [hv]; simp)
      rw [hv] at h
      have h0 := h
      simp only [VR] at h
      obtain ⟨a, hre, _⟩ := h
      refine RV.pure H (v := re x) ?_ h0
      simp only [execOp, hre]
      apply run_v
      simp [convert, run_underlying hs, run_underlying hd]
    · exact trivial
  · rename_i k hs hd
    split
    · rename_i k' n hv
      have h := hx (by rw [hv]; simp)
      rw [hv] at h
      simp only [VR] at h
      refine RV.pure H (v := .string (Utf8.encode n)) ?_ (ofV1_sound ρ _ (by simp [ofV1]))
      simp only [execOp, h]
      apply run_v
      simp [convert, run_underlying hs, run_underlying hd, Conv.intToString]
    · exact trivial
  · rename_i e hs hd
    split
    · rename_i l n he hv
      have h := hx (by rw [hv]; simp)
      rw [hv] at h
      simp only [VR] at h
      obtain ⟨a, hre, hsr⟩ := h
      have hrun := run_bytes_of_string (P := P) w src dst e a hs hd he
      have hcapge : a.size ≤ grownCap w a.size 0 e := by
        unfold grownCap; simp [Question.cut]
      have hrow : (bytesRow a (grownCap w a.size 0 e)).size = grownCap w a.size 0 e := by
        simp only [bytesRow, Array.size_append, Array.size_map, Array.size_replicate]
        have : a.data.size = a.size := rfl
        omega
      have hBR : BR ρ 0 (grownCap w a.size 0 e) (.opn e (bytesSV l n) big 0 true) (some (.cells (bytesRow a (grownCap w a.size 0 e)) e ((bytesRow a (grownCap w a.size 0 e)).size, (bytesRow a (grownCap w a.size 0 e)).size + 1))) := by
        refine ⟨_, _, rfl, hrow, ?_, fun h => absurd h (Nat.lt_irrefl _), ?_, ?_, fun h => by cases h⟩
        · rw [bytesSV_len, ← hsr.1]; omega
        · have hb := bytesSV_sound (ρ := ρ) a.data.toList
          rw [SR.len hsr, hsr.2] at hb
          intro i x hx
          obtain ⟨v, h1, h2⟩ := hb.get _ _ hx
          refine ⟨v, ?_, h2⟩
          have hlt := (List.getElem?_eq_some_iff.1 h1).1
          simp only [List.length_map, Array.length_toList] at hlt
          simp only [bytesRow, Nat.zero_add]
          rw [Array.getElem?_append_left (by simpa using hlt)]
          rw [← h1]
          simp only [List.getElem?_map, Array.getElem?_map, Array.getElem?_toList]
          rfl
        · intro i h1 h2 h3
          simp only [hrow] at h3
          omega
      refine ⟨ρ.add s.nx (w.heap.size, 0, grownCap w a.size 0 e), _, _, by simp only [execOp, hre]; exact run_v hrun, ?_, ?_, Ext.new H _ _, ?_, ?_⟩
      · simp only [VR]
        refine ⟨w.heap.size, 0, grownCap w a.size 0 e, grownCap w a.size 0 e, Rho.add_self _ _ _, by rw [← hsr.1]; exact hcapge, by omega, ?_⟩
        rw [hsr.1]
      · rw [alloc_eq]
        exact (H.drew).new hBR
      · rw [alloc_eq]
        exact Below.newDrew H.size _
      · intro _ hn
        exact absurd hn (by show Nat.succ s.nx ≠ s.nx; omega)
    · rename_i l n he hv
      cases hle : Nat.ble l 1048576 with
      | false => rw [cond_false]; exact trivial
      | true =>
      rw [cond_true]
      have h := hx (by rw [hv]; simp)
      rw [hv] at h
      simp only [VR] at h
      obtain ⟨a, hre, hsr⟩ := h
      have hl1 := Nat.le_of_ble_eq_true hle
      obtain ⟨rs, hrs, hvs⟩ := runesSV_sound (ρ := ρ) (a := a) ⟨hsr.1, hsr.2⟩ l 0 #[]
      rw [← hsr.1] at hrs
      have hsz : (Conv.runesFrom a a.size 0 #[]).size = (runesSV l n l 0).length := by
        rw [hrs]
        have := hvs.len
        simpa using this
      have hvs' : VRs ρ (runesSV l n l 0) (Conv.runesFrom a a.size 0 #[]).toList := by rw [hrs]; simpa using hvs
      have hbnd := size_runesFrom a a.size 0 #[]
      have hrun := run_runes_of_string (P := P) w src dst e a hs hd he (by simp at hbnd; have := hsr.1; omega)
      have hcapge := grownCap_ge w (Conv.runesFrom a a.size 0 #[]).size 0 e
      have hBR := BR.grown0 (ρ := ρ) (e := e) (rest := Array.replicate (grownCap w (Conv.runesFrom a a.size 0 #[]).size 0 e - (Conv.runesFrom a a.size 0 #[]).size) (.int .i32 0)) hvs'
      have hsum : (Conv.runesFrom a a.size 0 #[]).size + (Array.replicate (grownCap w (Conv.runesFrom a a.size 0 #[]).size 0 e - (Conv.runesFrom a a.size 0 #[]).size) (Value.int .i32 0)).size = grownCap w (Conv.runesFrom a a.size 0 #[]).size 0 e := by simp; omega
      rw [hsum] at hBR
      refine ⟨ρ.add s.nx (w.heap.size, 0, grownCap w (Conv.runesFrom a a.size 0 #[]).size 0 e), _, _, by simp only [execOp, hre]; exact run_v hrun, ?_, ?_, Ext.new H _ _, ?_, ?_⟩
      · simp only [VR]
        refine ⟨w.heap.size, 0, _, _, Rho.add_self _ _ _, by rw [← hsz]; exact hcapge, by omega, ?_⟩
        rw [hsz]
      · rw [alloc_eq]
        exact (H.drew).new hBR
      · rw [alloc_eq]
        exact Below.newDrew H.size _
      · intro _ hn
        exact absurd hn (by show Nat.succ s.nx ≠ s.nx; omega)
    · exact trivial
  · rename_i e hs hd
    split
    · rename_i he
      split
      · rename_i hv
        have h := hx (by rw [hv]; simp)
        rw [hv] at h
        simp only [VR] at h
        refine RV.pure H (v := .string .empty) ?_ (by simp only [VR]; exact ⟨_, rfl, rfl, rfl⟩)
        simp only [execOp, h]
        apply run_v
        rw [run_convert_bytes_string w src dst e none 0 0 hs he hd]
        simp [Conv.bytesToString]
      · rename_i hnn
        split
        · rename_i b off len hat
          refine RR.rv H fun hb => ?_
          obtain ⟨cs, n, hcs, hn, heq⟩ := strOf_some hb
          obtain ⟨a, cap, hre, l, h1, h2⟩ := atS_readN (P := P) H hat (hx (atS_ne hat)) hcs
          obtain ⟨bs, rfl, hbs⟩ := packSV_sound cs n l hn h2
          refine ⟨.string ⟨bs.toArray⟩, ?_, ?_⟩
          · simp only [execOp, hre]
            apply run_v
            rw [run_convert_bytes_string w src dst e (some a) len cap hs he hd]
            exact run_bytesBack h1
          · rw [heq]
            simp only [VR]
            refine ⟨_, rfl, ?_, by simpa using hbs⟩
            have hl := h2.len
            simp at hl
            have : cs.length = len := by
              unfold readN at hcs
              split at hcs
              · obtain ⟨q1, q2⟩ := takeN_some _ _ _ hcs
                rw [q1, List.length_take]; omega
              · cases hcs
            show bs.toArray.size = len
            simp; omega
        · exact trivial
    · rename_i he
      split
      · rename_i hv
        have h := hx (by rw [hv]; simp)
        rw [hv] at h
        simp only [VR] at h
        refine RV.pure H (v := .string .empty) ?_ (by simp only [VR]; exact ⟨_, rfl, rfl, rfl⟩)
        simp only [execOp, h]
        apply run_v
        exact run_convert_runes_nil w src dst e 0 0 hs he hd
      · rename_i hnn
        split
        · rename_i b off len hat
          refine RR.rv H fun hb => ?_
          obtain ⟨cs, hcs, heq⟩ := optEnc_some hb
          obtain ⟨a, cap, hre, l, h1, h2⟩ := atS_readN (P := P) H hat (hx (atS_ne hat)) hcs
          rw [heq] at hb ⊢
          obtain ⟨ns, len', n, rfl, h3, h4⟩ := encAll_sound cs l hb h2
          refine ⟨.string (runesBytes ns), ?_, ?_⟩
          · simp only [execOp, hre]
            apply run_v
            rw [run_convert_runes_string w src dst e (some a) len cap hs he hd]
            exact run_runesToString w a len cap ns h1
          · rw [h3]
            simp only [VR]
            exact ⟨_, rfl, h4.1, h4.2⟩
        · exact trivial
    · exact trivial
  · rename_i t hs hd
    split
    · rename_i b off hv
      cases hc : (inB (s.h.get b) off && nzS (size? P t)) with
      | false => rw [cond_false]; exact trivial
      | true =>
        rw [cond_true]
        rw [Bool.and_eq_true] at hc
        have h := hx (by rw [hv]; simp)
        rw [hv] at h
        have h0 := h
        simp only [VR] at h
        obtain ⟨r, base, e, hb, hre⟩ := h
        obtain ⟨rc, ty, fz, h1, h2⟩ := inB_some H hb hc.1
        obtain ⟨n, hn⟩ := nzS_some hc.2
        refine RV.pure H (v := re x) ?_ h0
        simp only [execOp, hre]
        exact run_v (toUnsafe_run hs hd h1 h2 hn)
    · exact trivial
  · rename_i u hs hd
    split
    · rename_i b off hv
      cases hc : headB u (size? P u) off (s.h.get b) with
      | false => rw [cond_false]; exact trivial
      | true =>
        rw [cond_true]
        have h := hx (by rw [hv]; simp)
        rw [hv] at h
        have h0 := h
        simp only [VR] at h
        obtain ⟨r, base, e, hb, hre⟩ := h
        obtain ⟨cs, n, hg, rfl, hn, hle⟩ := headB_some hc
        have hL := H.live _ _ _ _ hb
        rw [hg] at hL
        obtain ⟨rc, ho, hsz, hlen, rfl, hcr⟩ := hL
        refine RV.pure H (v := re x) ?_ h0
        simp only [execOp, hre]
        exact run_v (ofUnsafe_run hs hd ho hn (by omega))
    · exact trivial
  · exact trivial
end Go.Sh
