/- Part of the proof that the law CheckTwice answers true: what the evaluator is handed. No condition. -/
import Derived.Test.YtghflileejejbaaGreatDoorRows
import Derived.Test.YtghflileejejbaaGreatDoorShArgs
namespace Go.Proofs.YtghflileejejbaaGreatDoor
open Go Go.Sh
/-- the variables that are read: their cells -/
def ctBs : List (Nat × Nat × List SV) := [(0, 231, [.str 4 1701080942, .str 4 1954047348, .str 7 32772479205076835, .str 22 41318714828563417414051896845775667275130090755682928, .str 13 8033127625987616181313345908580, .str 7 32772479204551781, .str 9 1871512873130370823265]), (3, 286, [.int .u8 (128), .int .u8 (191), .int .u8 (160), .int .u8 (191), .int .u8 (128), .int .u8 (159), .int .u8 (144), .int .u8 (191), .int .u8 (128), .int .u8 (143), .int .u8 (0), .int .u8 (0), .int .u8 (0), .int .u8 (0), .int .u8 (0), .int .u8 (0), .int .u8 (0), .int .u8 (0), .int .u8 (0), .int .u8 (0), .int .u8 (0), .int .u8 (0), .int .u8 (0), .int .u8 (0), .int .u8 (0), .int .u8 (0), .int .u8 (0), .int .u8 (0), .int .u8 (0), .int .u8 (0), .int .u8 (0), .int .u8 (0)])]
/-- the struct types that are compared -/
def ctE0 (t : Nat) : Bool := (Nat.beq t 35 || (Nat.beq t 37 || (Nat.beq t 39 || (Nat.beq t 115 || Nat.beq t 131))))
def ctE : EE := ⟨ctE0, fun _ _ _ => .bad⟩
/-- 0 is the name, 1 the name and an x, 201 the line: which are equal -/
def ctEqO (i j : Nat) : Option Bool := cond (Nat.beq i 0) (cond (Nat.beq j 0) (some true) (cond (Nat.beq j 1) (some false) none)) (cond (Nat.beq i 1) (cond (Nat.beq j 0) (some false) (cond (Nat.beq j 1) (some true) none)) (cond (Nat.beq i 201) (cond (Nat.beq j 201) (some true) none) none))
/-- is it empty? (A: is the name?) -/
def ctEqE (a : Bool) (i : Nat) : Option Bool := cond (Nat.beq i 0) (some a) (cond (Nat.beq i 1) (some false) none)
def ctEq (a : Bool) : SV → SV → Option Bool
  | .opq i => fun
    | .opq j => ctEqO i j
    | .str l _ => cond (Nat.beq l 0) (ctEqE a i) none
    | _ => none
  | .str l _ => fun
    | .opq j => cond (Nat.beq l 0) (ctEqE a j) none
    | _ => none
  | _ => fun _ => none
/-- a: is the name empty? b: is it long? k: the kind (200) modulo 9 -/
def ctO (a b : Bool) (k : Nat) : BinOp → SV → SV → SV
  | .eql => fun x y => optV (ctEq a x y)
  | .neq => fun x y => optV (notO (ctEq a x y))
  | .rem => fun
    | .opq i => fun
      | .int .u8 (.ofNat m) => cond (Nat.beq i 200) (cond (Nat.beq m 9) (.int .u8 (.ofNat k)) .bad) .bad
      | _ => .bad
    | _ => fun _ => .bad
  | .gtr => fun
    | .opq i => fun
      | .int .i64 (.ofNat m) => cond (Nat.beq i 1000) (cond (Nat.beq m 50) (.bool b) .bad) .bad
      | _ => .bad
    | _ => fun _ => .bad
  | .add => fun
    | .opq i => fun
      | .str l c => cond (Nat.beq i 0) (cond (Nat.beq l 1) (cond (Nat.beq c 120) (cond b .bad (.opq 1)) .bad) .bad) .bad
      | _ => .bad
    | _ => fun _ => .bad
  | _ => fun _ _ => .bad
def ctEk (a b : Bool) (k : Nat) : EE := ⟨ctE0, ctO a b k⟩
/-- a name, a kind and a line that are not known -/
abbrev opqTwice (s : ByteArray) (n : Nat) (l : Int) : Opq where
  val i := if i = 0 then .string s else if i = 1 then .string (s ++ ⟨#[120]⟩) else if i < 100 then .string .empty else if i < 200 then .slice none 0 0 else if i = 200 then .int .u8 n else if i = 201 then .int .i64 l
    else if i = 1000 then .int .i64 s.size else if i = 1001 then .int .i64 (s ++ ⟨#[120]⟩).size else .int .i64 0
  str i h := by
    by_cases h0 : i = 0
    · exact ⟨_, by rw [if_pos h0]⟩
    · by_cases h1 : i = 1
      · exact ⟨_, by rw [if_neg h0, if_pos h1]⟩
      · exact ⟨_, by rw [if_neg h0, if_neg h1, if_pos h]⟩
  slc i h h' := ⟨none, 0, 0, by rw [if_neg (by omega), if_neg (by omega), if_neg (by omega), if_pos h']⟩
  int i h := by
    rw [if_neg (by omega), if_neg (by omega), if_neg (by omega), if_neg (by omega)]
    repeat' split
    all_goals exact ⟨_, _, rfl⟩
  lenS i s' h hs := by
    by_cases h0 : i = 0
    · subst h0
      rw [if_pos rfl] at hs
      cases hs
      rfl
    · by_cases h1 : i = 1
      · subst h1
        rw [if_neg (by decide), if_pos rfl] at hs
        cases hs
        rfl
      · rw [if_neg h0, if_neg h1, if_pos h] at hs
        cases hs
        rw [if_neg (by omega), if_neg (by omega), if_neg (by omega), if_neg (by omega), if_neg (by omega), if_neg (by omega), if_neg (by omega), if_neg (by omega)]
        rfl
  lenL i a l c h h' hs := by
    rw [if_neg (by omega), if_neg (by omega), if_neg (by omega), if_pos h'] at hs
    cases hs
    rw [if_neg (by omega), if_neg (by omega), if_neg (by omega), if_neg (by omega), if_neg (by omega), if_neg (by omega), if_neg (by omega), if_neg (by omega)]
    rfl
/-- the externs that are called -/
def ctX (f : Nat) : Option XK := cond (Nat.beq f 256) (some .indexByteStr) (none)
theorem ctE_eq (t : Nat) (h : ctE0 t = true) : Tryz.prog.stoodInHeld t = false ∧ Tryz.prog.eqGuardType Tryz.prog.depth t = false := by
  simp only [ctE0, Bool.or_eq_true] at h
  rcases h with h | h | h | h | h
  · obtain rfl := Nat.eq_of_beq_eq_true h; exact ⟨by kernel_rfl, by kernel_rfl⟩
  · obtain rfl := Nat.eq_of_beq_eq_true h; exact ⟨by kernel_rfl, by kernel_rfl⟩
  · obtain rfl := Nat.eq_of_beq_eq_true h; exact ⟨by kernel_rfl, by kernel_rfl⟩
  · obtain rfl := Nat.eq_of_beq_eq_true h; exact ⟨by kernel_rfl, by kernel_rfl⟩
  · obtain rfl := Nat.eq_of_beq_eq_true h; exact ⟨by kernel_rfl, by kernel_rfl⟩
theorem ctE_ok [Opq] : EOk Tryz.prog ctE := ⟨ctE_eq, fun _ _ _ _ _ _ _ _ h => absurd rfl h⟩
theorem ct_beq {α : Type} {i m : Nat} {x y r : α} (h : cond (Nat.beq i m) x y = r) : (i = m ∧ x = r) ∨ (i ≠ m ∧ y = r) := by
  cases hb : Nat.beq i m with
  | true => rw [hb, cond_true] at h; exact .inl ⟨Nat.eq_of_beq_eq_true hb, h⟩
  | false => rw [hb, cond_false] at h; exact .inr ⟨Nat.ne_of_beq_eq_false hb, h⟩
theorem ct_bad {i m : Nat} {x : SV} (h : cond (Nat.beq i m) x .bad ≠ .bad) : i = m ∧ cond (Nat.beq i m) x .bad = x := by
  cases hb : Nat.beq i m with
  | true => exact ⟨Nat.eq_of_beq_eq_true hb, rfl⟩
  | false => rw [hb] at h; exact absurd rfl h
theorem ct_x (s : ByteArray) : (s ++ ⟨#[120]⟩ : ByteArray).data.toList = s.data.toList ++ [120] := by
  rw [ByteArray.data_append, Array.toList_append]
theorem ct_empty {c : ByteArray} {n : Nat} (h : SR c 0 n) : c.data.toList = [] := List.eq_nil_of_length_eq_zero (by have := h.1; simpa using this)
theorem ct_ne (l : List UInt8) (c : UInt8) : (l == l ++ [c]) = false := by
  rw [beq_eq_false_iff_ne]
  intro e
  have := congrArg List.length e
  simp at this
theorem ct_ne' (l : List UInt8) (c : UInt8) : (l ++ [c] == l) = false := by
  rw [beq_eq_false_iff_ne]
  intro e
  have := congrArg List.length e
  simp at this
theorem ctEqE_sound (s : ByteArray) (n : Nat) (l : Int) {i : Nat} {b : Bool} (h : ctEqE s.data.toList.isEmpty i = some b) : ∃ a, @Opq.val (opqTwice s n l) i = .string a ∧ b = (a.data.toList == []) ∧ b = ([] == a.data.toList) := by
  unfold ctEqE at h
  rcases ct_beq h with ⟨e, h1⟩ | ⟨_, h1⟩
  · subst e
    cases h1
    refine ⟨s, rfl, ?_, ?_⟩ <;> cases s.data.toList <;> rfl
  · rcases ct_beq h1 with ⟨e, h2⟩ | ⟨_, h2⟩
    · subst e
      cases h2
      refine ⟨_, rfl, ?_, ?_⟩ <;> rw [ct_x] <;> cases s.data.toList <;> rfl
    · cases h2
theorem ctEqO_sound (s : ByteArray) (n : Nat) (l : Int) {i j : Nat} {b : Bool} (h : ctEqO i j = some b) :
    (∃ a c, @Opq.val (opqTwice s n l) i = .string a ∧ @Opq.val (opqTwice s n l) j = .string c ∧ b = (a.data.toList == c.data.toList)) ∨ (∃ z, @Opq.val (opqTwice s n l) i = .int .i64 z ∧ @Opq.val (opqTwice s n l) j = .int .i64 z ∧ b = true) := by
  unfold ctEqO at h
  rcases ct_beq h with ⟨e, h1⟩ | ⟨_, h1⟩
  · subst e
    rcases ct_beq h1 with ⟨e, h2⟩ | ⟨_, h2⟩
    · subst e; cases h2; exact .inl ⟨s, s, rfl, rfl, by simp⟩
    · rcases ct_beq h2 with ⟨e, h3⟩ | ⟨_, h3⟩
      · subst e; cases h3; exact .inl ⟨s, _, rfl, rfl, by rw [ct_x, ct_ne]⟩
      · cases h3
  · rcases ct_beq h1 with ⟨e, h2⟩ | ⟨_, h2⟩
    · subst e
      rcases ct_beq h2 with ⟨e, h3⟩ | ⟨_, h3⟩
      · subst e; cases h3; exact .inl ⟨_, s, rfl, rfl, by rw [ct_x, ct_ne']⟩
      · rcases ct_beq h3 with ⟨e, h4⟩ | ⟨_, h4⟩
        · subst e; cases h4; exact .inl ⟨_, _, rfl, rfl, by simp⟩
        · cases h4
    · rcases ct_beq h2 with ⟨e, h3⟩ | ⟨_, h3⟩
      · subst e
        rcases ct_beq h3 with ⟨e, h4⟩ | ⟨_, h4⟩
        · subst e; cases h4; exact .inr ⟨l, rfl, rfl, rfl⟩
        · cases h4
      · cases h3
theorem ctEq_sound (s : ByteArray) (n : Nat) (l : Int) {ρ : Rho} {x y : SV} {b : Bool} {v u : Value} (h : ctEq s.data.toList.isEmpty x y = some b) (hx : letI := opqTwice s n l; VR ρ x v) (hy : letI := opqTwice s n l; VR ρ y u) :
    (∃ a c, v = .string a ∧ u = .string c ∧ b = (a.data.toList == c.data.toList)) ∨ (∃ z, v = .int .i64 z ∧ u = .int .i64 z ∧ b = true) := by
  letI := opqTwice s n l
  cases x <;> try (cases h; done)
  · rename_i k m
    cases y <;> try (cases h; done)
    rename_i j
    simp only [ctEq] at h
    rcases ct_beq h with ⟨e, g⟩ | ⟨_, g⟩
    · subst e
      obtain ⟨a, h1, h2, h3⟩ := ctEqE_sound s n l g
      simp only [VR] at hx hy
      obtain ⟨c, rfl, hc⟩ := hx
      exact .inl ⟨c, a, rfl, hy.trans h1, by rw [ct_empty hc]; exact h3⟩
    · cases g
  · rename_i i
    cases y <;> try (cases h; done)
    · rename_i k m
      simp only [ctEq] at h
      rcases ct_beq h with ⟨e, g⟩ | ⟨_, g⟩
      · subst e
        obtain ⟨a, h1, h2, h3⟩ := ctEqE_sound s n l g
        simp only [VR] at hx hy
        obtain ⟨c, rfl, hc⟩ := hy
        exact .inl ⟨a, c, hx.trans h1, rfl, by rw [ct_empty hc]; exact h2⟩
      · cases g
    · rename_i j
      simp only [VR] at hx hy
      rcases ctEqO_sound s n l h with ⟨a, c, h1, h2, h3⟩ | ⟨z, h1, h2, h3⟩
      · exact .inl ⟨a, c, hx.trans h1, hy.trans h2, h3⟩
      · exact .inr ⟨z, hx.trans h1, hy.trans h2, h3⟩
theorem ctEk_ok (s : ByteArray) (n : Nat) (l : Int) (a b : Bool) (k : Nat) (ha : s.data.toList.isEmpty = a) (hb : decide (50 < s.size) = b) (hk : n % 9 = k) : letI := opqTwice s n l; EOk Tryz.prog (ctEk a b k) := by
  letI := opqTwice s n l
  refine ⟨ctE_eq, fun op t x y v u w ρ h hx hy => ?_⟩
  show ∃ r, (binOp op t v u).run Tryz.prog w = .ok r w ∧ VR ρ (ctO a b k op x y) r
  replace h : ctO a b k op x y ≠ .bad := h
  cases op <;> try exact absurd rfl h
  · -- add
    cases x <;> try exact absurd rfl h
    rename_i i
    cases y <;> try exact absurd rfl h
    rename_i q c
    simp only [ctO] at h ⊢
    obtain ⟨e1, e⟩ := ct_bad h
    rw [e] at h ⊢; subst e1; clear e
    obtain ⟨e1, e⟩ := ct_bad h
    rw [e] at h ⊢; subst e1; clear e
    obtain ⟨e1, e⟩ := ct_bad h
    rw [e] at h ⊢; subst e1; clear e
    · · · cases b with
          | true => exact absurd rfl h
          | false =>
            simp only [VR] at hx hy
            have hx' : v = .string s := hx
            obtain ⟨d, hd, h1, h2⟩ := hy
            subst hx' hd
            have hl : s.size ≤ 50 := by have := of_decide_eq_false hb; omega
            have hd' : d = ⟨#[120]⟩ := by
              have h3 : d.data.toList = [120] := natOf_inj d.data.toList [120] (by simpa using h1) (by rw [h2]; rfl)
              cases d
              congr 1
              exact Array.ext' h3
            subst hd'
            refine ⟨.string (s ++ ⟨#[120]⟩), ?_, ?_⟩
            · simp [binOp, Op.stringOp]
              have : (ByteArray.mk #[120]).size = 1 := rfl
              omega
            · simp only [cond_false, VR]
              rfl
  · -- rem
    cases x <;> try exact absurd rfl h
    rename_i i
    cases y <;> try exact absurd rfl h
    rename_i k' m
    cases k' <;> try exact absurd rfl h
    cases m with
    | negSucc m => exact absurd rfl h
    | ofNat m =>
      simp only [ctO] at h ⊢
      obtain ⟨e1, e⟩ := ct_bad h
      rw [e] at h ⊢; subst e1; clear e
      obtain ⟨e1, e⟩ := ct_bad h
      rw [e] at h ⊢; subst e1; clear e
      · · simp only [VR] at hx hy
          have hx' : v = .int .u8 n := hx
          subst hx' hy hk
          refine ⟨.int .u8 ((n % 9 : Nat) : Int), ?_, by simp [VR]⟩
          simp [binOp, Op.intDiv]
          rfl
  · -- eql
    simp only [ctO] at h ⊢
    cases he : ctEq a x y with
    | none => rw [he] at h; exact absurd rfl h
    | some r =>
      subst ha
      rcases ctEq_sound s n l he hx hy with ⟨c, d, rfl, rfl, rfl⟩ | ⟨z, rfl, rfl, rfl⟩
      · exact ⟨.bool (c.data.toList == d.data.toList), by simp [binOp, Op.stringOp, ByteArray.toList_eq], by simp [optV, VR]⟩
      · exact ⟨.bool true, by simp [binOp, Op.intCmp], by simp [optV, VR]⟩
  · -- neq
    simp only [ctO] at h ⊢
    cases he : ctEq a x y with
    | none => rw [he] at h; exact absurd rfl h
    | some r =>
      subst ha
      rcases ctEq_sound s n l he hx hy with ⟨c, d, rfl, rfl, rfl⟩ | ⟨z, rfl, rfl, rfl⟩
      · exact ⟨.bool (!(c.data.toList == d.data.toList)), by simp [binOp, Op.stringOp, ByteArray.toList_eq], by simp [optV, notO, VR]⟩
      · exact ⟨.bool false, by simp [binOp, Op.intCmp], by simp [optV, notO, VR]⟩
  · -- gtr
    cases x <;> try exact absurd rfl h
    rename_i i
    cases y <;> try exact absurd rfl h
    rename_i k' m
    cases k' <;> try exact absurd rfl h
    cases m with
    | negSucc m => exact absurd rfl h
    | ofNat m =>
      simp only [ctO] at h ⊢
      obtain ⟨e1, e⟩ := ct_bad h
      rw [e] at h ⊢; subst e1; clear e
      obtain ⟨e1, e⟩ := ct_bad h
      rw [e] at h ⊢; subst e1; clear e
      · · simp only [VR] at hx hy
          have hx' : v = .int .i64 s.size := hx
          subst hx' hy hb
          refine ⟨_, gtr_run, ?_⟩
          simp only [VR]
          congr 1
          apply decide_eq_decide.2
          constructor <;> intro h <;> (have : Int.ofNat 50 = (50 : Int) := rfl; omega)
theorem ctX_at {f : Nat} {k : XK} (h : ctX f = some k) : (f = 256 ∧ k = .indexByteStr) := by
  unfold ctX at h
  cases hb0 : Nat.beq f 256 with
  | true => rw [hb0, cond_true] at h; cases h; exact ⟨Nat.eq_of_beq_eq_true hb0, rfl⟩
  | false =>
  rw [hb0, cond_false] at h
  cases h
theorem ctX_ok [Opq] (I : Rho → World → Prop) : XOk I Tryz.prog ctX where
  ext f k h _ := by
    obtain ⟨rfl, rfl⟩ := ctX_at h
    · exact row_indexByteStr ⟨_, Tryz.func256, by kernel_rfl, by kernel_rfl, by kernel_rfl, by kernel_rfl⟩
  known f rows h := by
    obtain ⟨_, h⟩ := ctX_at h
    cases h
end Go.Proofs.YtghflileejejbaaGreatDoor
