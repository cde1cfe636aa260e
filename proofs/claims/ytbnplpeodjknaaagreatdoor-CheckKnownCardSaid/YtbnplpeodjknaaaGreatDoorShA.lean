/- Part of a proof that a closed law answers true: the evaluator of the first text is sound; this text is one step of it. No condition. -/
import Derived.Test.YtbnplpeodjknaaaGreatDoorSh
set_option linter.unusedSectionVars false
set_option linter.unusedSimpArgs false
set_option linter.unusedVariables false
namespace Go.Sh

/-! ## tries -/
theorem Nat.pred_div_ne {j k : Nat} (h : j ≠ k) (h1 : Nat.beq j 0 = false) (h2 : Nat.beq k 0 = false) (h3 : Nat.beq (Nat.mod j 2) 1 = false) (h4 : Nat.beq (Nat.mod k 2) 1 = false) :
    Nat.pred (Nat.div j 2) ≠ Nat.pred (Nat.div k 2) := by
  have e1 : j ≠ 0 := by intro e; subst e; simp at h1
  have e2 : k ≠ 0 := by intro e; subst e; simp at h2
  have e3 : j % 2 ≠ 1 := by intro e; have : Nat.beq (j % 2) 1 = true := by rw [e]; rfl
                            exact absurd (this.symm.trans h3) (by simp)
  have e4 : k % 2 ≠ 1 := by intro e; have : Nat.beq (k % 2) 1 = true := by rw [e]; rfl
                            exact absurd (this.symm.trans h4) (by simp)
  show Nat.pred (j / 2) ≠ Nat.pred (k / 2)
  simp only [Nat.pred_eq_sub_one]; omega

theorem Nat.div_ne {j k : Nat} (h : j ≠ k) (h3 : Nat.beq (Nat.mod j 2) 1 = true) (h4 : Nat.beq (Nat.mod k 2) 1 = true) : Nat.div j 2 ≠ Nat.div k 2 := by
  have e3 : j % 2 = 1 := Nat.eq_of_beq_eq_true h3
  have e4 : k % 2 = 1 := Nat.eq_of_beq_eq_true h4
  show j / 2 ≠ k / 2
  omega

theorem En.get_e (k : Nat) : En.get .e k = .bad := rfl
theorem En.get_n (l : En) (v : SV) (r : En) (k : Nat) : En.get (.n l v r) k =
    cond (Nat.beq k 0) v (cond (Nat.beq (Nat.mod k 2) 1) (l.get (Nat.div k 2)) (r.get (Nat.pred (Nat.div k 2)))) := by
  show Bool.rec (motive := fun _ => SV) _ v (Nat.beq k 0) = _
  cases Nat.beq k 0 <;> first | rfl | (show Bool.rec (motive := fun _ => SV) _ _ (Nat.beq (Nat.mod k 2) 1) = _; cases Nat.beq (Nat.mod k 2) 1 <;> rfl)
theorem En.mk_succ (f k : Nat) (x : SV) : En.mk (f + 1) k x =
    cond (Nat.beq k 0) (.n .e x .e) (cond (Nat.beq (Nat.mod k 2) 1) (.n (En.mk f (Nat.div k 2) x) .bad .e) (.n .e .bad (En.mk f (Nat.pred (Nat.div k 2)) x))) := by
  show Bool.rec (motive := fun _ => En) _ _ (Nat.beq k 0) = _
  cases Nat.beq k 0 <;> first | rfl | (show Bool.rec (motive := fun _ => En) _ _ (Nat.beq (Nat.mod k 2) 1) = _; cases Nat.beq (Nat.mod k 2) 1 <;> rfl)
theorem En.set_e (k : Nat) (x : SV) : En.set .e k x = En.mk 40 k x := rfl
theorem En.set_n (l : En) (v : SV) (r : En) (k : Nat) (x : SV) : En.set (.n l v r) k x =
    cond (Nat.beq k 0) (.n l x r) (cond (Nat.beq (Nat.mod k 2) 1) (.n (l.set (Nat.div k 2) x) v r) (.n l v (r.set (Nat.pred (Nat.div k 2)) x))) := by
  show Bool.rec (motive := fun _ => En) _ _ (Nat.beq k 0) = _
  cases Nat.beq k 0 <;> first | rfl | (show Bool.rec (motive := fun _ => En) _ _ (Nat.beq (Nat.mod k 2) 1) = _; cases Nat.beq (Nat.mod k 2) 1 <;> rfl)

theorem En.get_mk_ne : ∀ (f k : Nat) (x : SV) (j : Nat), j ≠ k → (En.mk f k x).get j = .bad := by
  intro f
  induction f with
  | zero => intro k x j _; rfl
  | succ f ih =>
    intro k x j h
    rw [En.mk_succ]
    cases hk : Nat.beq k 0 <;> cases hk2 : Nat.beq (Nat.mod k 2) 1 <;> simp only [cond_true, cond_false, En.get_n] <;>
      cases hj : Nat.beq j 0 <;> cases hj2 : Nat.beq (Nat.mod j 2) 1 <;> simp only [cond_true, cond_false, En.get_e]
    all_goals first
      | rfl
      | exact ih _ _ _ (Nat.pred_div_ne h hj hk hj2 hk2)
      | exact ih _ _ _ (Nat.div_ne h hj2 hk2)
      | exact absurd ((Nat.eq_of_beq_eq_true hj).trans (Nat.eq_of_beq_eq_true hk).symm) h
theorem En.get_mk_eq : ∀ (f k : Nat) (x : SV), (En.mk f k x).get k = x ∨ (En.mk f k x).get k = .bad := by
  intro f
  induction f with
  | zero => intro k x; exact .inr rfl
  | succ f ih =>
    intro k x
    rw [En.mk_succ]
    cases hk : Nat.beq k 0 <;> cases hk2 : Nat.beq (Nat.mod k 2) 1 <;> simp only [cond_true, cond_false, En.get_n, hk, hk2]
    · exact ih _ _
    · exact ih _ _
    · exact .inl trivial
    · exact .inl trivial
theorem En.get_set_ne : ∀ (t : En) (k : Nat) (x : SV) (j : Nat), j ≠ k → (t.set k x).get j = t.get j := by
  intro t
  induction t with
  | e => intro k x j h; rw [En.set_e, En.get_mk_ne _ _ _ _ h]; rfl
  | n l v r ihl ihr =>
    intro k x j h
    rw [En.set_n]
    cases hk : Nat.beq k 0 <;> cases hk2 : Nat.beq (Nat.mod k 2) 1 <;> simp only [cond_true, cond_false, En.get_n] <;>
      cases hj : Nat.beq j 0 <;> cases hj2 : Nat.beq (Nat.mod j 2) 1 <;> simp only [cond_true, cond_false]
    all_goals first
      | rfl
      | exact ihr _ _ _ (Nat.pred_div_ne h hj hk hj2 hk2)
      | exact ihl _ _ _ (Nat.div_ne h hj2 hk2)
      | exact absurd ((Nat.eq_of_beq_eq_true hj).trans (Nat.eq_of_beq_eq_true hk).symm) h
theorem En.get_set_eq : ∀ (t : En) (k : Nat) (x : SV), (t.set k x).get k = x ∨ (t.set k x).get k = .bad := by
  intro t
  induction t with
  | e => intro k x; rw [En.set_e]; exact En.get_mk_eq _ _ _
  | n l v r ihl ihr =>
    intro k x
    rw [En.set_n]
    cases hk : Nat.beq k 0 <;> cases hk2 : Nat.beq (Nat.mod k 2) 1 <;> simp only [cond_true, cond_false, En.get_n, hk, hk2]
    · exact ihr _ _
    · exact ihl _ _
    · exact .inl trivial
    · exact .inl trivial

theorem Hp.get_e (k : Nat) : Hp.get .e k = .none := rfl
theorem Hp.get_n (l : Hp) (v : SBlk) (r : Hp) (k : Nat) : Hp.get (.n l v r) k =
    cond (Nat.beq k 0) v (cond (Nat.beq (Nat.mod k 2) 1) (l.get (Nat.div k 2)) (r.get (Nat.pred (Nat.div k 2)))) := by
  show Bool.rec (motive := fun _ => SBlk) _ v (Nat.beq k 0) = _
  cases Nat.beq k 0 <;> first | rfl | (show Bool.rec (motive := fun _ => SBlk) _ _ (Nat.beq (Nat.mod k 2) 1) = _; cases Nat.beq (Nat.mod k 2) 1 <;> rfl)
theorem Hp.mk_succ (f k : Nat) (x : SBlk) : Hp.mk (f + 1) k x =
    cond (Nat.beq k 0) (.n .e x .e) (cond (Nat.beq (Nat.mod k 2) 1) (.n (Hp.mk f (Nat.div k 2) x) .none .e) (.n .e .none (Hp.mk f (Nat.pred (Nat.div k 2)) x))) := by
  show Bool.rec (motive := fun _ => Hp) _ _ (Nat.beq k 0) = _
  cases Nat.beq k 0 <;> first | rfl | (show Bool.rec (motive := fun _ => Hp) _ _ (Nat.beq (Nat.mod k 2) 1) = _; cases Nat.beq (Nat.mod k 2) 1 <;> rfl)
theorem Hp.set_e (k : Nat) (x : SBlk) : Hp.set .e k x = Hp.mk 40 k x := rfl
theorem Hp.set_n (l : Hp) (v : SBlk) (r : Hp) (k : Nat) (x : SBlk) : Hp.set (.n l v r) k x =
    cond (Nat.beq k 0) (.n l x r) (cond (Nat.beq (Nat.mod k 2) 1) (.n (l.set (Nat.div k 2) x) v r) (.n l v (r.set (Nat.pred (Nat.div k 2)) x))) := by
  show Bool.rec (motive := fun _ => Hp) _ _ (Nat.beq k 0) = _
  cases Nat.beq k 0 <;> first | rfl | (show Bool.rec (motive := fun _ => Hp) _ _ (Nat.beq (Nat.mod k 2) 1) = _; cases Nat.beq (Nat.mod k 2) 1 <;> rfl)
theorem Hp.get_mk_ne : ∀ (f k : Nat) (x : SBlk) (j : Nat), j ≠ k → (Hp.mk f k x).get j = .none := by
  intro f
  induction f with
  | zero => intro k x j _; rfl
  | succ f ih =>
    intro k x j h
    rw [Hp.mk_succ]
    cases hk : Nat.beq k 0 <;> cases hk2 : Nat.beq (Nat.mod k 2) 1 <;> simp only [cond_true, cond_false, Hp.get_n] <;>
      cases hj : Nat.beq j 0 <;> cases hj2 : Nat.beq (Nat.mod j 2) 1 <;> simp only [cond_true, cond_false, Hp.get_e]
    all_goals first
      | rfl
      | exact ih _ _ _ (Nat.pred_div_ne h hj hk hj2 hk2)
      | exact ih _ _ _ (Nat.div_ne h hj2 hk2)
      | exact absurd ((Nat.eq_of_beq_eq_true hj).trans (Nat.eq_of_beq_eq_true hk).symm) h
theorem Hp.get_mk_eq : ∀ (f k : Nat) (x : SBlk), (Hp.mk f k x).get k = x ∨ (Hp.mk f k x).get k = .none := by
  intro f
  induction f with
  | zero => intro k x; exact .inr rfl
  | succ f ih =>
    intro k x
    rw [Hp.mk_succ]
    cases hk : Nat.beq k 0 <;> cases hk2 : Nat.beq (Nat.mod k 2) 1 <;> simp only [cond_true, cond_false, Hp.get_n, hk, hk2]
    · exact ih _ _
    · exact ih _ _
    · exact .inl trivial
    · exact .inl trivial
theorem Hp.get_set_ne : ∀ (t : Hp) (k : Nat) (x : SBlk) (j : Nat), j ≠ k → (t.set k x).get j = t.get j := by
  intro t
  induction t with
  | e => intro k x j h; rw [Hp.set_e, Hp.get_mk_ne _ _ _ _ h]; rfl
  | n l v r ihl ihr =>
    intro k x j h
    rw [Hp.set_n]
    cases hk : Nat.beq k 0 <;> cases hk2 : Nat.beq (Nat.mod k 2) 1 <;> simp only [cond_true, cond_false, Hp.get_n] <;>
      cases hj : Nat.beq j 0 <;> cases hj2 : Nat.beq (Nat.mod j 2) 1 <;> simp only [cond_true, cond_false]
    all_goals first
      | rfl
      | exact ihr _ _ _ (Nat.pred_div_ne h hj hk hj2 hk2)
      | exact ihl _ _ _ (Nat.div_ne h hj2 hk2)
      | exact absurd ((Nat.eq_of_beq_eq_true hj).trans (Nat.eq_of_beq_eq_true hk).symm) h
theorem Hp.get_set_eq : ∀ (t : Hp) (k : Nat) (x : SBlk), (t.set k x).get k = x ∨ (t.set k x).get k = .none := by
  intro t
  induction t with
  | e => intro k x; rw [Hp.set_e]; exact Hp.get_mk_eq _ _ _
  | n l v r ihl ihr =>
    intro k x
    rw [Hp.set_n]
    cases hk : Nat.beq k 0 <;> cases hk2 : Nat.beq (Nat.mod k 2) 1 <;> simp only [cond_true, cond_false, Hp.get_n, hk, hk2]
    · exact ihr _ _
    · exact ihl _ _
    · exact .inl trivial
    · exact .inl trivial

/-! ## numbers -/
theorem ltI_eq (a b : Int) : ltI a b = decide (a < b) := by
  cases a with
  | ofNat a => cases b with
    | ofNat b => simp only [ltI]; rw [Bool.eq_iff_iff]; simp [Nat.ble_eq]; omega
    | negSucc b => simp only [ltI]; symm; rw [decide_eq_false_iff_not]; simp only [Int.ofNat_eq_natCast]; omega
  | negSucc a => cases b with
    | ofNat b => simp only [ltI]; symm; rw [decide_eq_true_iff]; simp only [Int.ofNat_eq_natCast]; omega
    | negSucc b => simp only [ltI]; rw [Bool.eq_iff_iff]; simp [Nat.ble_eq]; omega
theorem eqI_eq (a b : Int) : eqI a b = (a == b) := by
  cases a with
  | ofNat a => cases b with
    | ofNat b => simp only [eqI]; rw [Bool.eq_iff_iff]; simp; omega
    | negSucc b => simp only [eqI]; rw [Bool.eq_iff_iff]; simp
  | negSucc a => cases b with
    | ofNat b => simp only [eqI]; rw [Bool.eq_iff_iff]; simp
    | negSucc b => simp only [eqI]; rw [Bool.eq_iff_iff]; simp
theorem eqK_eq (a b : IntKind) : eqK a b = true ↔ a = b := by
  cases a <;> cases b <;> simp [eqK]
theorem eqB_eq (a b : Bool) : eqB a b = (a == b) := by cases a <;> cases b <;> rfl
theorem wrap_neg8 (n : Nat) (hn : n ≤ 127) : IntKind.wrap .i8 (.negSucc n) = .negSucc n := by
  have e1 : (2 : Int) ^ IntKind.i8.bits = 256 := rfl
  have e2 : (2 : Int) ^ (IntKind.i8.bits - 1) = 128 := rfl
  have e3 : IntKind.i8.signed = true := rfl
  unfold IntKind.wrap
  rw [e1, e2, e3, Int.negSucc_eq]
  simp only [Bool.true_and, decide_eq_true_eq, ge_iff_le]
  split <;> omega
theorem wrap_neg16 (n : Nat) (hn : n ≤ 32767) : IntKind.wrap .i16 (.negSucc n) = .negSucc n := by
  have e1 : (2 : Int) ^ IntKind.i16.bits = 65536 := rfl
  have e2 : (2 : Int) ^ (IntKind.i16.bits - 1) = 32768 := rfl
  have e3 : IntKind.i16.signed = true := rfl
  unfold IntKind.wrap
  rw [e1, e2, e3, Int.negSucc_eq]
  simp only [Bool.true_and, decide_eq_true_eq, ge_iff_le]
  split <;> omega
theorem wrap_neg32 (n : Nat) (hn : n ≤ 2147483647) : IntKind.wrap .i32 (.negSucc n) = .negSucc n := by
  have e1 : (2 : Int) ^ IntKind.i32.bits = 4294967296 := rfl
  have e2 : (2 : Int) ^ (IntKind.i32.bits - 1) = 2147483648 := rfl
  have e3 : IntKind.i32.signed = true := rfl
  unfold IntKind.wrap
  rw [e1, e2, e3, Int.negSucc_eq]
  simp only [Bool.true_and, decide_eq_true_eq, ge_iff_le]
  split <;> omega
theorem wrap_neg64 (n : Nat) (hn : n ≤ 9223372036854775807) : IntKind.wrap .i64 (.negSucc n) = .negSucc n := by
  have e1 : (2 : Int) ^ IntKind.i64.bits = 18446744073709551616 := rfl
  have e2 : (2 : Int) ^ (IntKind.i64.bits - 1) = 9223372036854775808 := rfl
  have e3 : IntKind.i64.signed = true := rfl
  unfold IntKind.wrap
  rw [e1, e2, e3, Int.negSucc_eq]
  simp only [Bool.true_and, decide_eq_true_eq, ge_iff_le]
  split <;> omega
theorem wrap_pos8 (n : Nat) (hn : n ≤ 127) : IntKind.wrap .i8 (.ofNat n) = .ofNat n := by
  have e1 : (2 : Int) ^ IntKind.i8.bits = 256 := rfl
  have e2 : (2 : Int) ^ (IntKind.i8.bits - 1) = 128 := rfl
  have e3 : IntKind.i8.signed = true := rfl
  unfold IntKind.wrap
  rw [e1, e2, e3, Int.ofNat_eq_natCast]
  simp only [Bool.true_and, decide_eq_true_eq, ge_iff_le]
  split <;> omega
theorem wrap_posu8 (n : Nat) (hn : n ≤ 255) : IntKind.wrap .u8 (.ofNat n) = .ofNat n := by
  have e1 : (2 : Int) ^ IntKind.u8.bits = 256 := rfl
  have e3 : IntKind.u8.signed = false := rfl
  unfold IntKind.wrap
  rw [e1, e3, Int.ofNat_eq_natCast]
  simp only [Bool.false_and, Bool.false_eq_true, if_false]
  omega
theorem wrap_pos16 (n : Nat) (hn : n ≤ 32767) : IntKind.wrap .i16 (.ofNat n) = .ofNat n := by
  have e1 : (2 : Int) ^ IntKind.i16.bits = 65536 := rfl
  have e2 : (2 : Int) ^ (IntKind.i16.bits - 1) = 32768 := rfl
  have e3 : IntKind.i16.signed = true := rfl
  unfold IntKind.wrap
  rw [e1, e2, e3, Int.ofNat_eq_natCast]
  simp only [Bool.true_and, decide_eq_true_eq, ge_iff_le]
  split <;> omega
theorem wrap_posu16 (n : Nat) (hn : n ≤ 65535) : IntKind.wrap .u16 (.ofNat n) = .ofNat n := by
  have e1 : (2 : Int) ^ IntKind.u16.bits = 65536 := rfl
  have e3 : IntKind.u16.signed = false := rfl
  unfold IntKind.wrap
  rw [e1, e3, Int.ofNat_eq_natCast]
  simp only [Bool.false_and, Bool.false_eq_true, if_false]
  omega
theorem wrap_pos32 (n : Nat) (hn : n ≤ 2147483647) : IntKind.wrap .i32 (.ofNat n) = .ofNat n := by
  have e1 : (2 : Int) ^ IntKind.i32.bits = 4294967296 := rfl
  have e2 : (2 : Int) ^ (IntKind.i32.bits - 1) = 2147483648 := rfl
  have e3 : IntKind.i32.signed = true := rfl
  unfold IntKind.wrap
  rw [e1, e2, e3, Int.ofNat_eq_natCast]
  simp only [Bool.true_and, decide_eq_true_eq, ge_iff_le]
  split <;> omega
theorem wrap_posu32 (n : Nat) (hn : n ≤ 4294967295) : IntKind.wrap .u32 (.ofNat n) = .ofNat n := by
  have e1 : (2 : Int) ^ IntKind.u32.bits = 4294967296 := rfl
  have e3 : IntKind.u32.signed = false := rfl
  unfold IntKind.wrap
  rw [e1, e3, Int.ofNat_eq_natCast]
  simp only [Bool.false_and, Bool.false_eq_true, if_false]
  omega
theorem wrap_pos64 (n : Nat) (hn : n ≤ 9223372036854775807) : IntKind.wrap .i64 (.ofNat n) = .ofNat n := by
  have e1 : (2 : Int) ^ IntKind.i64.bits = 18446744073709551616 := rfl
  have e2 : (2 : Int) ^ (IntKind.i64.bits - 1) = 9223372036854775808 := rfl
  have e3 : IntKind.i64.signed = true := rfl
  unfold IntKind.wrap
  rw [e1, e2, e3, Int.ofNat_eq_natCast]
  simp only [Bool.true_and, decide_eq_true_eq, ge_iff_le]
  split <;> omega
theorem wrap_posu64 (n : Nat) (hn : n ≤ 18446744073709551615) : IntKind.wrap .u64 (.ofNat n) = .ofNat n := by
  have e1 : (2 : Int) ^ IntKind.u64.bits = 18446744073709551616 := rfl
  have e3 : IntKind.u64.signed = false := rfl
  unfold IntKind.wrap
  rw [e1, e3, Int.ofNat_eq_natCast]
  simp only [Bool.false_and, Bool.false_eq_true, if_false]
  omega
theorem wrapF_eq (k : IntKind) (n : Int) : wrapF k n = k.wrap n := by
  cases n with
  | ofNat n =>
    simp only [wrapF]
    cases h : Nat.ble n (maxOf k) with
    | false => rfl
    | true =>
      have hn := Nat.le_of_ble_eq_true h
      rw [cond_true]
      cases k with
      | i8 => exact (wrap_pos8 n (by simpa only [maxOf] using hn)).symm
      | i16 => exact (wrap_pos16 n (by simpa only [maxOf] using hn)).symm
      | i32 => exact (wrap_pos32 n (by simpa only [maxOf] using hn)).symm
      | i64 => exact (wrap_pos64 n (by simpa only [maxOf] using hn)).symm
      | u8 => exact (wrap_posu8 n (by simpa only [maxOf] using hn)).symm
      | u16 => exact (wrap_posu16 n (by simpa only [maxOf] using hn)).symm
      | u32 => exact (wrap_posu32 n (by simpa only [maxOf] using hn)).symm
      | u64 => exact (wrap_posu64 n (by simpa only [maxOf] using hn)).symm
  | negSucc n =>
    simp only [wrapF]
    cases h : Nat.ble n (maxOf k) with
    | false => rfl
    | true =>
      have hn := Nat.le_of_ble_eq_true h
      rw [cond_true]
      cases k with
      | i8 => rw [show IntKind.i8.signed = true from rfl, cond_true]; exact (wrap_neg8 n (by simpa only [maxOf] using hn)).symm
      | i16 => rw [show IntKind.i16.signed = true from rfl, cond_true]; exact (wrap_neg16 n (by simpa only [maxOf] using hn)).symm
      | i32 => rw [show IntKind.i32.signed = true from rfl, cond_true]; exact (wrap_neg32 n (by simpa only [maxOf] using hn)).symm
      | i64 => rw [show IntKind.i64.signed = true from rfl, cond_true]; exact (wrap_neg64 n (by simpa only [maxOf] using hn)).symm
      | u8 => rw [show IntKind.u8.signed = false from rfl, cond_false]
      | u16 => rw [show IntKind.u16.signed = false from rfl, cond_false]
      | u32 => rw [show IntKind.u32.signed = false from rfl, cond_false]
      | u64 => rw [show IntKind.u64.signed = false from rfl, cond_false]

/-! ## strings -/
theorem natOf_nil : natOf [] = 0 := rfl
theorem natOf_cons (c : UInt8) (cs : List UInt8) : natOf (c :: cs) = c.toNat + 256 * natOf cs := rfl
theorem natOf_append (a b : List UInt8) : natOf (a ++ b) = natOf a + natOf b * 2 ^ (8 * a.length) := by
  induction a with
  | nil => simp [natOf_nil]
  | cons c cs ih =>
    simp only [List.cons_append, natOf_cons, ih, List.length_cons]
    rw [show 8 * (cs.length + 1) = 8 * cs.length + 8 from by omega, Nat.pow_add]
    rw [Nat.mul_add, Nat.add_assoc]
    congr 2
    rw [Nat.mul_left_comm, show (2 : Nat) ^ 8 = 256 from rfl, Nat.mul_comm 256 (2 ^ (8 * cs.length))]
theorem natOf_lt (a : List UInt8) : natOf a < 2 ^ (8 * a.length) := by
  induction a with
  | nil => simp [natOf_nil]
  | cons c cs ih =>
    simp only [natOf_cons, List.length_cons]
    rw [show 8 * (cs.length + 1) = 8 * cs.length + 8 from by omega, Nat.pow_add]
    have := c.toNat_lt
    omega
theorem natOf_drop (a : List UInt8) (k : Nat) (h : k ≤ a.length) : natOf (a.drop k) = natOf a / 2 ^ (8 * k) := by
  have e : natOf a = natOf (a.take k) + natOf (a.drop k) * 2 ^ (8 * k) := by
    have h1 : (a.take k).length = k := by simp; omega
    have := natOf_append (a.take k) (a.drop k)
    rw [List.take_append_drop, h1] at this
    exact this
  have hl := natOf_lt (a.take k)
  have h1 : (a.take k).length = k := by simp; omega
  rw [h1] at hl
  rw [e, Nat.add_mul_div_right _ _ (Nat.two_pow_pos _), Nat.div_eq_of_lt hl, Nat.zero_add]
theorem natOf_take (a : List UInt8) (k : Nat) (h : k ≤ a.length) : natOf (a.take k) = natOf a % 2 ^ (8 * k) := by
  have e : natOf a = natOf (a.take k) + natOf (a.drop k) * 2 ^ (8 * k) := by
    have h1 : (a.take k).length = k := by simp; omega
    have := natOf_append (a.take k) (a.drop k)
    rw [List.take_append_drop, h1] at this
    exact this
  have hl := natOf_lt (a.take k)
  have h1 : (a.take k).length = k := by simp; omega
  rw [h1] at hl
  calc natOf (a.take k) = (natOf (a.take k) + natOf (a.drop k) * 2 ^ (8 * k)) % 2 ^ (8 * k) := by rw [Nat.add_mul_mod_self_right, Nat.mod_eq_of_lt hl]
    _ = natOf a % 2 ^ (8 * k) := by rw [← e]
theorem natOf_inj : ∀ (a b : List UInt8), a.length = b.length → natOf a = natOf b → a = b := by
  intro a
  induction a with
  | nil => intro b h _; cases b with | nil => rfl | cons _ _ => simp at h
  | cons c cs ih =>
    intro b h e
    cases b with
    | nil => simp at h
    | cons d ds =>
      simp only [natOf_cons] at e
      have h1 := c.toNat_lt
      have h2 := d.toNat_lt
      have hc : c.toNat = d.toNat := by omega
      have hs : natOf cs = natOf ds := by omega
      rw [ih ds (by simpa using h) hs, UInt8.toNat_inj.1 hc]

end Go.Sh
