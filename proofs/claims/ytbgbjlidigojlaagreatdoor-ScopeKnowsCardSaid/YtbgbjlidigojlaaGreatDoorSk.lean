/- Part of the proof that the law ScopeKnows answers true: what is said of comparisons with an unknown name and arity is so. No condition. -/
import Derived.Test.YtbgbjlidigojlaaGreatDoorSkD
import Derived.Test.YtbgbjlidigojlaaGreatDoorShArgs
import Derived.Lib.ItoaNum
import Derived.Lib.ItoaLen
import Derived.Lib.LaidTab
import Derived.Lib.ItoaMem
set_option linter.unusedSectionVars false
set_option linter.unusedSimpArgs false
set_option linter.unusedVariables false
namespace Go.Sk
open Go.Lib
theorem dec_digit : ∀ (u : Nat), ∀ c ∈ decDigits u, 48 ≤ c.toNat ∧ c.toNat ≤ 57 := by
  intro u
  induction u using Nat.strongRecOn with
  | _ u ih =>
    intro c hc
    by_cases h : u < 10
    · rw [decDigits_one h, List.mem_singleton] at hc
      subst hc
      rw [UInt8.toNat_ofNat']
      omega
    · rw [decDigits, dif_neg h, List.mem_append, List.mem_singleton] at hc
      rcases hc with hc | hc
      · exact ih (u / 10) (by omega) c hc
      · subst hc
        rw [UInt8.toNat_ofNat']
        omega
/-- no numeral has a slash -/
theorem itoa_slash (n : Int) : (47 : UInt8) ∉ itoa n := by
  intro h
  have key : ∀ u, (47 : UInt8) ∉ decDigits u := fun u h => by
    have := (dec_digit u 47 h).1
    have e : (47 : UInt8).toNat = 47 := rfl
    omega
  unfold itoa at h
  split at h
  · rcases List.mem_cons.1 h with h | h
    · cases h
    · exact key _ h
  · exact key _ h
theorem dec_ne (u : Nat) : 1 ≤ (decDigits u).length := by rw [decDigits_length]; exact nDigits_pos u
/-- a numeral of one byte -/
theorem itoa_one {n : Int} {d : Nat} (hd : d < 10) : itoa n = [UInt8.ofNat (48 + d)] ↔ n = d := by
  constructor
  · intro h
    unfold itoa at h
    split at h
    · have h1 := congrArg List.length h
      have := dec_ne n.natAbs
      simp at h1
      rw [h1] at this
      simp at this
    · rename_i hn
      have h1 := congrArg List.length h
      rw [decDigits_length] at h1
      have hs : n.toNat < 10 := by
        rcases Nat.lt_or_ge n.toNat 10 with h2 | h2
        · exact h2
        · rw [nDigits_big (by omega)] at h1
          have := nDigits_pos (n.toNat / 10)
          simp at h1
          omega
      rw [decDigits_one hs] at h
      have h2 := (List.cons.inj h).1
      have h3 := congrArg UInt8.toNat h2
      rw [UInt8.toNat_ofNat', UInt8.toNat_ofNat'] at h3
      omega
  · intro h
    subst h
    unfold itoa
    rw [if_neg (by omega), Int.toNat_natCast, decDigits_one hd]
/-- two lists that are split at their last slash -/
theorem split_last {c : UInt8} : ∀ {s s' t t' : List UInt8}, c ∉ t → c ∉ t' → s ++ c :: t = s' ++ c :: t' → s = s' ∧ t = t'
  | [], [], t, t', _, _, h => ⟨rfl, (List.cons.inj h).2⟩
  | [], b :: s', t, t', h1, _, h => by
    simp only [List.nil_append, List.cons_append] at h
    obtain ⟨e, g⟩ := List.cons.inj h
    subst e
    exact absurd (by rw [g]; simp) h1
  | a :: s, [], t, t', _, h2, h => by
    simp only [List.nil_append, List.cons_append] at h
    obtain ⟨e, g⟩ := List.cons.inj h
    subst e
    exact absurd (by rw [← g]; simp) h2
  | a :: s, b :: s', t, t', h1, h2, h => by
    simp only [List.cons_append] at h
    obtain ⟨e, g⟩ := List.cons.inj h
    obtain ⟨g1, g2⟩ := split_last h1 h2 g
    exact ⟨by rw [e, g1], g2⟩
/-- a name, a slash and a number make a key of one digit just where they are its parts -/
theorem key_eq {s k : List UInt8} {n : Int} {d : Nat} (hd : d < 10) : s ++ 47 :: itoa n = k ++ 47 :: [UInt8.ofNat (48 + d)] ↔ s = k ∧ n = d := by
  constructor
  · intro h
    have hs : (47 : UInt8) ∉ [UInt8.ofNat (48 + d)] := by
      intro h
      rw [List.mem_singleton] at h
      have h3 := congrArg UInt8.toNat h
      rw [UInt8.toNat_ofNat'] at h3
      have e : (47 : UInt8).toNat = 47 := rfl
      omega
    obtain ⟨h1, h2⟩ := split_last (itoa_slash n) hs h
    exact ⟨h1, (itoa_one hd).1 h2⟩
  · rintro ⟨rfl, rfl⟩
    rw [(itoa_one hd).2 rfl]
end Go.Sk
namespace Go.Sk
open Go Go.Sh Go.Lib
def bA (l : List UInt8) : ByteArray := ⟨l.toArray⟩
def keyB (s : ByteArray) (a : Int) : ByteArray := (s ++ ⟨#[47]⟩) ++ bA (itoa a)
def strAt (s : ByteArray) (a : Int) (i : Nat) : ByteArray :=
  if i = 0 then s else if i = 1 then s ++ ⟨#[47]⟩ else if i = 2 then bA (itoa a) else if i = 3 then keyB s a else if i = 4 then (keyB s a).extract 7 (keyB s a).size else if i = 5 then (keyB s a).extract 0 7 else .empty
/-- a name (0) and an arity (200) that are not known, and what is made of them -/
abbrev opqKnows (s : ByteArray) (a : Int) : Opq where
  val i := if i < 100 then .string (strAt s a i) else if i < 200 then .slice none 0 0 else if i = 200 then .int .i64 a else if i = 201 then .int .i64 (IntKind.i64.wrap (a + 1))
    else if 1000 ≤ i ∧ i < 1100 then .int .i64 (strAt s a (i - 1000)).size else .int .i64 0
  str i h := ⟨_, by rw [if_pos h]⟩
  slc i h h' := ⟨none, 0, 0, by rw [if_neg (by omega), if_pos h']⟩
  int i h := by
    rw [if_neg (by omega), if_neg (by omega)]
    repeat' split
    all_goals exact ⟨_, _, rfl⟩
  lenS i s' h hs := by
    rw [if_pos h] at hs
    cases hs
    rw [if_neg (by omega), if_neg (by omega), if_neg (by omega), if_neg (by omega), if_pos (by omega), Nat.add_sub_cancel]
  lenL i x l c h h' hs := by
    rw [if_neg (by omega), if_pos h'] at hs
    cases hs
    rw [if_neg (by omega), if_neg (by omega), if_neg (by omega), if_neg (by omega), if_neg (by omega)]
    rfl
theorem bA_list (l : List UInt8) : (bA l).data.toList = l := by simp [bA]
theorem keyB_list (s : ByteArray) (a : Int) : (keyB s a).data.toList = s.data.toList ++ 47 :: itoa a := by
  unfold keyB
  rw [ByteArray.data_append, ByteArray.data_append, Array.toList_append, Array.toList_append, bA_list]
  simp
/-- the key and a literal of the form name/digit -/
theorem keyB_eq (s : ByteArray) (a : Int) {k : List UInt8} {d : Nat} (hd : d < 10) : (keyB s a).data.toList = k ++ [47, UInt8.ofNat (48 + d)] ↔ s.data.toList = k ∧ a = d := by
  rw [keyB_list]
  exact key_eq hd
end Go.Sk
namespace Go.Sk
open Go Go.Sh Go.Lib
theorem natOf_at : ∀ (l : List UInt8) (i : Nat) (h : i < l.length), Nat.mod (Nat.div (natOf l) (Nat.pow 2 (Nat.mul 8 i))) 256 = (l[i]).toNat
  | [], i, h => by simp at h
  | c :: cs, 0, _ => by
    have := c.toNat_lt
    simp only [natOf, List.getElem_cons_zero]
    show (c.toNat + 256 * natOf cs) / 2 ^ (8 * 0) % 256 = _
    omega
  | c :: cs, i + 1, h => by
    have hc := c.toNat_lt
    have ih := natOf_at cs i (by simpa using h)
    simp only [natOf, List.getElem_cons_succ]
    rw [← ih]
    show (c.toNat + 256 * natOf cs) / 2 ^ (8 * (i + 1)) % 256 = natOf cs / 2 ^ (8 * i) % 256
    rw [show 8 * (i + 1) = 8 + 8 * i by omega, Nat.pow_add, ← Nat.div_div_eq_div_mul]
    congr 2
    have : (2 : Nat) ^ 8 = 256 := rfl
    rw [this]
    omega
theorem skKey_sound {nm : Nat → Nat → Option Bool} {ar : Nat → Option Bool} {s : ByteArray} {a : Int} (hnm : ∀ (c : ByteArray) (b : Bool), nm c.size (natOf c.data.toList) = some b → b = (s.data.toList == c.data.toList)) (har : ∀ k b, ar k = some b → b = decide (a = (k : Int)))
    {c : ByteArray} {b : Bool} (h : skKey nm ar c.size (natOf c.data.toList) = some b) : b = ((keyB s a).data.toList == c.data.toList) := by
  have hlen : c.data.toList.length = c.size := by simp
  generalize hl : c.data.toList = L at h hlen
  generalize hz : c.size = z at h hlen
  match z, h with
  | l + 2, h =>
    simp only [skKey] at h
    have e1 : Sh.strAt (natOf L) l = (L[l]'(by omega)).toNat := natOf_at L l (by omega)
    have e2 : Sh.strAt (natOf L) (l + 1) = (L[l + 1]'(by omega)).toNat := natOf_at L (l + 1) (by omega)
    rw [e1, e2] at h
    cases h1 : Nat.beq (L[l]'(by omega)).toNat 47 with
    | false => rw [h1] at h; cases h
    | true =>
      rw [h1, cond_true] at h
      cases h2 : (Nat.ble 48 (L[l + 1]'(by omega)).toNat && Nat.ble (L[l + 1]'(by omega)).toNat 57) with
      | false => rw [h2] at h; cases h
      | true =>
        rw [h2, cond_true] at h
        rw [Bool.and_eq_true] at h2
        have g1 := Nat.le_of_ble_eq_true h2.1
        have g2 := Nat.le_of_ble_eq_true h2.2
        have g0 := Nat.eq_of_beq_eq_true h1
        have hd : L.drop l = [L[l]'(by omega), L[l + 1]'(by omega)] := by
          rw [List.drop_eq_getElem_cons (by omega), List.drop_eq_getElem_cons (by omega), List.drop_eq_nil_of_le (by omega)]
        have x1 : L[l]'(by omega) = 47 := UInt8.toNat_inj.1 (by rw [g0]; rfl)
        have x2 : UInt8.ofNat (48 + ((L[l + 1]'(by omega)).toNat - 48)) = L[l + 1]'(by omega) := UInt8.toNat_inj.1 (by rw [UInt8.toNat_ofNat']; omega)
        have hL : L = L.take l ++ [47, UInt8.ofNat (48 + ((L[l + 1]'(by omega)).toNat - 48))] := by
          rw [x2, ← x1, ← hd, List.take_append_drop]
        have hc' : natOf (L.take l) = Nat.mod (natOf L) (Nat.pow 2 (Nat.mul 8 l)) := natOf_take L l (by omega)
        have hsz : (bA (L.take l)).size = l := by
          have : (bA (L.take l)).data.toList.length = l := by rw [bA_list]; simp; omega
          simpa using this
        have hn := hnm (bA (L.take l))
        rw [hsz, bA_list, hc'] at hn
        have key := keyB_eq s a (k := L.take l) (d := (L[l + 1]'(by omega)).toNat - 48) (by omega)
        rw [← hL] at key
        cases hq : nm l (Nat.mod (natOf L) (Nat.pow 2 (Nat.mul 8 l))) with
        | none => rw [hq] at h; cases h
        | some q =>
          rw [hq] at h
          have hq' := hn q hq
          cases q with
          | false =>
            cases h
            symm
            rw [beq_eq_false_iff_ne]
            intro e
            have := (key.1 e).1
            rw [this] at hq'
            simp at hq'
          | true =>
            have hb := har _ _ h
            have hs := eq_of_beq hq'.symm
            rw [hb, Bool.eq_iff_iff, decide_eq_true_iff, beq_iff_eq]
            exact ⟨fun e => key.2 ⟨hs, e⟩, fun e => (key.1 e).2⟩
end Go.Sk
namespace Go.Sk
open Go Go.Sh Go.Lib
theorem itoa_ne (n : Int) : itoa n ≠ [] := by
  intro h
  unfold itoa at h
  split at h
  · cases h
  · have := dec_ne n.toNat
    rw [h] at this
    simp at this
/-- behind "concat/" the key has one byte only where the name is concat and the arity a digit -/
theorem rest_one {s : List UInt8} {a : Int} {x : UInt8} (h : s ++ 47 :: itoa a = cat7 ++ [x]) : s = [99, 111, 110, 99, 97, 116] ∧ itoa a = [x] := by
  have hx : x ≠ 47 := by
    intro e
    subst e
    have h1 := congrArg List.getLast? h
    rw [List.getLast?_append, List.getLast?_append] at h1
    cases hi : itoa a with
    | nil => exact itoa_ne a hi
    | cons c cs =>
      rw [hi] at h1
      have hm : (47 : UInt8) ∈ c :: cs := by
        have h2 : (c :: cs).getLast? = some 47 := by
          rw [List.getLast?_cons_cons] at h1
          cases hg : (c :: cs).getLast? with
          | none => simp at hg
          | some y => rw [hg] at h1; simpa using h1
        exact List.mem_of_getLast? h2
      exact itoa_slash a (hi ▸ hm)
  have h' : s ++ 47 :: itoa a = [99, 111, 110, 99, 97, 116] ++ 47 :: [x] := h
  exact split_last (itoa_slash a) (by simp; exact fun e => hx e.symm) h'
end Go.Sk
namespace Go.Sk
open Go Go.Sh Go.Lib
theorem itoa_digit {n : Int} {x : UInt8} (h : itoa n = [x]) : ∃ d : Nat, d < 10 ∧ n = d := by
  unfold itoa at h
  split at h
  · have h1 := congrArg List.length h
    have := dec_ne n.natAbs
    simp at h1
    rw [h1] at this
    simp at this
  · rename_i hn
    have h1 := congrArg List.length h
    rw [decDigits_length] at h1
    refine ⟨n.toNat, ?_, by omega⟩
    rcases Nat.lt_or_ge n.toNat 10 with h2 | h2
    · exact h2
    · rw [nDigits_big (by omega)] at h1
      have := nDigits_pos (n.toNat / 10)
      simp at h1
      omega
end Go.Sk
namespace Go.Sk
open Go Go.Sh Go.Lib
/-- what the oracle's parameters mean -/
structure SkOk (s : ByteArray) (a : Int) (nm : Nat → Nat → Option Bool) (ar : Nat → Option Bool) (long lng pre : Bool) : Prop where
  hnm : ∀ (c : ByteArray) (b : Bool), nm c.size (natOf c.data.toList) = some b → b = (s.data.toList == c.data.toList)
  har : ∀ k b, ar k = some b → b = decide (a = (k : Int))
  hlong : long = decide (200 < s.size)
  hlng : lng = decide (7 ≤ (keyB s a).size)
  hpre : pre = ((keyB s a).data.toList.take 7 == cat7)
  /-- with the prefix, the name is not concat at a digit -/
  hrest : pre = true → ¬ (s.data.toList = [99, 111, 110, 99, 97, 116] ∧ ∃ d : Nat, d < 10 ∧ a = d)
  hlo : -9223372036854775808 ≤ a
  hhi : a ≤ 9223372036854775807
end Go.Sk
namespace Go.Sk
open Go Go.Sh Go.Lib
variable {s : ByteArray} {a : Int} {nm : Nat → Nat → Option Bool} {ar : Nat → Option Bool} {long lng pre : Bool}
theorem beqc {α : Type} {i m : Nat} {x y r : α} (h : cond (Nat.beq i m) x y = r) : (i = m ∧ x = r) ∨ (i ≠ m ∧ y = r) := by
  cases hb : Nat.beq i m with
  | true => rw [hb, cond_true] at h; exact .inl ⟨Nat.eq_of_beq_eq_true hb, h⟩
  | false => rw [hb, cond_false] at h; exact .inr ⟨Nat.ne_of_beq_eq_false hb, h⟩
theorem badc {i m : Nat} {x : SV} (h : cond (Nat.beq i m) x .bad ≠ .bad) : i = m ∧ cond (Nat.beq i m) x .bad = x := by
  cases hb : Nat.beq i m with
  | true => exact ⟨Nat.eq_of_beq_eq_true hb, rfl⟩
  | false => rw [hb] at h; exact absurd rfl h
theorem cat_of (c : ByteArray) (h1 : c.size = 7) (h2 : natOf c.data.toList = catN) : c.data.toList = cat7 :=
  natOf_inj c.data.toList cat7 (by simpa [cat7] using h1) h2
theorem skStr_sound (H : SkOk s a nm ar long lng pre) {i : Nat} {c : ByteArray} {b : Bool} (h : skStr nm ar pre i c.size (natOf c.data.toList) = some b) :
    ∃ d, @Opq.val (opqKnows s a) i = .string d ∧ b = (d.data.toList == c.data.toList) := by
  unfold skStr at h
  rcases beqc h with ⟨e, h1⟩ | ⟨_, h1⟩
  · subst e; exact ⟨s, rfl, H.hnm c b h1⟩
  · rcases beqc h1 with ⟨e, h2⟩ | ⟨_, h2⟩
    · subst e; exact ⟨keyB s a, rfl, skKey_sound H.hnm H.har h2⟩
    · rcases beqc h2 with ⟨e, h3⟩ | ⟨_, h3⟩
      · subst e
        rcases beqc h3 with ⟨e1, h4⟩ | ⟨_, h4⟩
        · rcases beqc h4 with ⟨e2, h5⟩ | ⟨_, h5⟩
          · cases h5
            refine ⟨(keyB s a).extract 0 7, rfl, ?_⟩
            rw [cat_of c e1 e2, H.hpre]
            congr 1
            simp [ByteArray.data_extract]
          · cases h5
        · cases h4
      · cases h3
theorem wrap_id {n : Int} (h1 : -9223372036854775808 ≤ n) (h2 : n ≤ 9223372036854775807) : IntKind.i64.wrap n = n := by
  rw [IntKind.wrap_i64]; omega
theorem skInt_sound (H : SkOk s a nm ar long lng pre) {i k : Nat} {b : Bool} (h : skInt ar pre i k = some b) :
    ∃ z : Int, @Opq.val (opqKnows s a) i = .int .i64 z ∧ b = decide (z = (k : Int)) := by
  unfold skInt at h
  rcases beqc h with ⟨e, h1⟩ | ⟨_, h1⟩
  · subst e; exact ⟨a, rfl, H.har k b h1⟩
  · rcases beqc h1 with ⟨e, h2⟩ | ⟨_, h2⟩
    · subst e
      refine ⟨IntKind.i64.wrap (a + 1), rfl, ?_⟩
      cases k with
      | zero => cases h2
      | succ k =>
        simp only [skSucc] at h2
        cases hk : Nat.ble k 1000 with
        | false => rw [hk] at h2; cases h2
        | true =>
          rw [hk, cond_true] at h2
          have hk' := Nat.le_of_ble_eq_true hk
          rw [H.har k b h2]
          have hlo := H.hlo
          have hhi := H.hhi
          by_cases ha : a = 9223372036854775807
          · subst ha
            have e : IntKind.i64.wrap (9223372036854775807 + 1) = -9223372036854775808 := by decide
            rw [e]
            apply decide_eq_decide.2
            omega
          · have e : IntKind.i64.wrap (a + 1) = a + 1 := wrap_id (by omega) (by omega)
            rw [e]
            apply decide_eq_decide.2
            omega
    · rcases beqc h2 with ⟨e, h3⟩ | ⟨_, h3⟩
      · subst e
        rcases beqc h3 with ⟨e1, h4⟩ | ⟨_, h4⟩
        · subst e1
          cases hp : pre with
          | false => rw [hp] at h4; cases h4
          | true =>
            rw [hp] at h4
            cases h4
            refine ⟨((keyB s a).extract 7 (keyB s a).size).size, rfl, ?_⟩
            symm
            rw [decide_eq_false_iff_not]
            intro e
            have hpre := H.hpre
            rw [hp] at hpre
            have ht := eq_of_beq hpre.symm
            have hr := H.hrest hp
            have hsz : ((keyB s a).extract 7 (keyB s a).size).size = 1 := by exact_mod_cast e
            rw [ByteArray.size_extract] at hsz
            have hlen : (keyB s a).data.toList.length = 8 := by
              have : (keyB s a).data.toList.length = (keyB s a).size := by simp
              omega
            obtain ⟨x, hx⟩ : ∃ x, (keyB s a).data.toList.drop 7 = [x] := by
              apply List.length_eq_one_iff.1
              rw [List.length_drop, hlen]
            have hk : s.data.toList ++ 47 :: itoa a = cat7 ++ [x] := by
              rw [← keyB_list, ← ht, ← hx, List.take_append_drop]
            obtain ⟨r1, r2⟩ := rest_one hk
            exact hr ⟨r1, itoa_digit r2⟩
        · cases h4
      · cases h3
end Go.Sk
namespace Go.Sk
open Go Go.Sh Go.Lib
variable {s : ByteArray} {a : Int} {nm : Nat → Nat → Option Bool} {ar : Nat → Option Bool} {long lng pre : Bool}
theorem skEq_sound (H : SkOk s a nm ar long lng pre) {ρ : Rho} {x y : SV} {b : Bool} {v u : Value} (h : skEq nm ar pre x y = some b) (hx : letI := opqKnows s a; VR ρ x v) (hy : letI := opqKnows s a; VR ρ y u) :
    (∃ c d : ByteArray, v = .string c ∧ u = .string d ∧ b = (c.data.toList == d.data.toList)) ∨ (∃ z q : Int, v = .int .i64 z ∧ u = .int .i64 q ∧ b = decide (z = q)) := by
  letI := opqKnows s a
  cases x <;> try (cases h; done)
  · rename_i k m
    cases k <;> try (cases h; done)
    cases m with
    | negSucc m => cases h
    | ofNat m =>
      cases y <;> try (cases h; done)
      rename_i i
      obtain ⟨z, h1, h2⟩ := skInt_sound H h
      simp only [VR] at hx hy
      exact .inr ⟨m, z, hx, hy.trans h1, by rw [h2]; exact decide_eq_decide.2 eq_comm⟩
  · rename_i l n
    cases y <;> try (cases h; done)
    rename_i i
    simp only [VR] at hx hy
    obtain ⟨c, rfl, h1, h2⟩ := hx
    subst h1 h2
    obtain ⟨d, h3, h4⟩ := skStr_sound H h
    exact .inl ⟨c, d, rfl, hy.trans h3, by rw [h4]; exact Bool.beq_comm⟩
  · rename_i i
    cases y <;> try (cases h; done)
    · rename_i k m
      cases k <;> try (cases h; done)
      cases m with
      | negSucc m => cases h
      | ofNat m =>
        obtain ⟨z, h1, h2⟩ := skInt_sound H h
        simp only [VR] at hx hy
        exact .inr ⟨z, m, hx.trans h1, hy, h2⟩
    · rename_i l n
      simp only [VR] at hx hy
      obtain ⟨c, rfl, h1, h2⟩ := hy
      subst h1 h2
      obtain ⟨d, h3, h4⟩ := skStr_sound H h
      exact .inl ⟨d, c, hx.trans h3, rfl, h4⟩
end Go.Sk
namespace Go.Sk
open Go Go.Sh Go.Lib
variable {s : ByteArray} {a : Int} {nm : Nat → Nat → Option Bool} {ar : Nat → Option Bool} {long lng pre : Bool}
theorem one_of {d : ByteArray} {n : Nat} {x : UInt8} (h1 : d.size = 1) (h2 : natOf d.data.toList = n) (hx : n = natOf [x]) : d = ⟨#[x]⟩ := by
  have h3 : d.data.toList = [x] := natOf_inj d.data.toList [x] (by simpa using h1) (by rw [h2, hx])
  cases d
  congr 1
  exact Array.ext' h3
theorem geq_run {P : Program} {w : World} {t : TypeId} {k : IntKind} {a b : Int} : (binOp .geq t (.int k a) (.int k b)).run P w = .ok (.bool (decide (a ≥ b))) w := by
  simp [binOp, Op.intCmp]
theorem sk_ok {P : Program} {E0 : TypeId → Bool} (hE0 : ∀ t, E0 t = true → P.stoodInHeld t = false ∧ P.eqGuardType P.depth t = false) (H : SkOk s a nm ar long lng pre) :
    letI := opqKnows s a; EOk P ⟨E0, skO nm ar long lng pre, skS lng⟩ := by
  letI := opqKnows s a
  refine ⟨hE0, fun op t x y v u w ρ h hx hy => ?_, fun i l h ρ hne => ?_⟩
  · show ∃ r, (binOp op t v u).run P w = .ok r w ∧ VR ρ (skO nm ar long lng pre op x y) r
    replace h : skO nm ar long lng pre op x y ≠ .bad := h
    cases op <;> try exact absurd rfl h
    · -- add
      cases x <;> try exact absurd rfl h
      rename_i i
      cases y <;> try exact absurd rfl h
      · rename_i k m
        cases k <;> try exact absurd rfl h
        cases m with
        | negSucc m => exact absurd rfl h
        | ofNat m =>
          simp only [skO] at h ⊢
          obtain ⟨e1, e⟩ := badc h
          rw [e] at h ⊢; subst e1; clear e
          obtain ⟨e1, e⟩ := badc h
          rw [e] at h ⊢; subst e1; clear e
          simp only [VR] at hx hy
          have hx' : v = .int .i64 a := hx
          subst hx' hy
          exact ⟨.int .i64 (IntKind.i64.wrap (a + 1)), by simp [binOp, Op.intArith], by simp only [VR]; rfl⟩
      · rename_i l c
        simp only [skO] at h ⊢
        obtain ⟨e1, e⟩ := badc h
        rw [e] at h ⊢; subst e1; clear e
        obtain ⟨e1, e⟩ := badc h
        rw [e] at h ⊢; subst e1; clear e
        obtain ⟨e1, e⟩ := badc h
        rw [e] at h ⊢; subst e1; clear e
        cases hl : long with
        | true => rw [hl] at h; exact absurd rfl h
        | false =>
          rw [cond_false]
          simp only [VR] at hx hy
          have hx' : v = .string s := hx
          obtain ⟨d, hd, h1, h2⟩ := hy
          subst hx' hd
          have hs : s.size ≤ 200 := by have := H.hlong; rw [hl] at this; have := of_decide_eq_false this.symm; omega
          have hd' : d = ⟨#[47]⟩ := one_of h1 h2 rfl
          subst hd'
          refine ⟨.string (s ++ ⟨#[47]⟩), ?_, by simp only [VR]; rfl⟩
          simp [binOp, Op.stringOp]
          have : (ByteArray.mk #[47]).size = 1 := rfl
          omega
      · rename_i j
        simp only [skO] at h ⊢
        obtain ⟨e1, e⟩ := badc h
        rw [e] at h ⊢; subst e1; clear e
        obtain ⟨e1, e⟩ := badc h
        rw [e] at h ⊢; subst e1; clear e
        cases hl : long with
        | true => rw [hl] at h; exact absurd rfl h
        | false =>
          rw [cond_false]
          simp only [VR] at hx hy
          have hx' : v = .string (s ++ ⟨#[47]⟩) := hx
          have hy' : u = .string (bA (itoa a)) := hy
          subst hx' hy'
          have hs : s.size ≤ 200 := by have := H.hlong; rw [hl] at this; have := of_decide_eq_false this.symm; omega
          have hi : (bA (itoa a)).size ≤ 1000 := by
            have h1 := itoa_length_le a H.hlo H.hhi
            have h2 : (bA (itoa a)).data.toList.length = (bA (itoa a)).size := by simp
            rw [bA_list] at h2
            omega
          refine ⟨.string (keyB s a), ?_, by simp only [VR]; rfl⟩
          simp [binOp, Op.stringOp, keyB]
          have : (ByteArray.mk #[47]).size = 1 := rfl
          omega
    · -- eql
      simp only [skO] at h ⊢
      cases he : skEq nm ar pre x y with
      | none => rw [he] at h; exact absurd rfl h
      | some r =>
        rcases skEq_sound H he hx hy with ⟨c, d, rfl, rfl, rfl⟩ | ⟨z, q, rfl, rfl, rfl⟩
        · exact ⟨.bool (c.data.toList == d.data.toList), by simp [binOp, Op.stringOp, ByteArray.toList_eq], by simp [optV, VR]⟩
        · exact ⟨.bool (decide (z = q)), by simp [binOp, Op.intCmp]; rfl, by simp [optV, VR]⟩
    · -- neq
      simp only [skO] at h ⊢
      cases he : skEq nm ar pre x y with
      | none => rw [he] at h; exact absurd rfl h
      | some r =>
        rcases skEq_sound H he hx hy with ⟨c, d, rfl, rfl, rfl⟩ | ⟨z, q, rfl, rfl, rfl⟩
        · exact ⟨.bool (!(c.data.toList == d.data.toList)), by simp [binOp, Op.stringOp, ByteArray.toList_eq], by simp [optV, notO, VR]⟩
        · exact ⟨.bool (!decide (z = q)), by simp [binOp, Op.intCmp]; rfl, by simp [optV, notO, VR]⟩
    · -- gtr
      cases x <;> try exact absurd rfl h
      rename_i i
      cases y <;> try exact absurd rfl h
      rename_i k m
      cases k <;> try exact absurd rfl h
      cases m with
      | negSucc m => exact absurd rfl h
      | ofNat m =>
        simp only [skO] at h ⊢
        obtain ⟨e1, e⟩ := badc h
        rw [e] at h ⊢; subst e1; clear e
        obtain ⟨e1, e⟩ := badc h
        rw [e] at h ⊢; subst e1; clear e
        simp only [VR] at hx hy
        have hx' : v = .int .i64 s.size := hx
        subst hx' hy
        refine ⟨_, gtr_run, ?_⟩
        simp only [VR]
        rw [H.hlong]
        congr 1
        apply decide_eq_decide.2
        constructor <;> intro h <;> (have : Int.ofNat 200 = (200 : Int) := rfl; omega)
    · -- geq
      cases x <;> try exact absurd rfl h
      rename_i i
      cases y <;> try exact absurd rfl h
      rename_i k m
      cases k <;> try exact absurd rfl h
      cases m with
      | negSucc m => exact absurd rfl h
      | ofNat m =>
        simp only [skO] at h ⊢
        obtain ⟨e1, e⟩ := badc h
        rw [e] at h ⊢; subst e1; clear e
        obtain ⟨e1, e⟩ := badc h
        rw [e] at h ⊢; subst e1; clear e
        simp only [VR] at hx hy
        have hx' : v = .int .i64 (keyB s a).size := hx
        subst hx' hy
        refine ⟨_, geq_run, ?_⟩
        simp only [VR]
        rw [H.hlng]
        congr 1
        apply decide_eq_decide.2
        constructor <;> intro h <;> (have : Int.ofNat 7 = (7 : Int) := rfl; omega)
  · replace hne : skS lng (.opq i) l h ≠ .bad := hne
    show ∃ b, Opq.val i = .string b ∧ l ≤ h.getD b.size ∧ h.getD b.size ≤ b.size ∧ VR ρ (skS lng (.opq i) l h) (.string (b.extract l (h.getD b.size)))
    simp only [skS] at hne ⊢
    obtain ⟨e1, e⟩ := badc hne
    rw [e] at hne ⊢; subst e1; clear e
    cases hl : lng with
    | false => rw [hl] at hne; exact absurd rfl hne
    | true =>
      rw [hl, cond_true] at hne
      rw [cond_true]
      have h7 : 7 ≤ (keyB s a).size := by have := H.hlng; rw [hl] at this; exact of_decide_eq_true this.symm
      refine ⟨keyB s a, rfl, ?_⟩
      cases h with
      | none =>
        simp only at hne ⊢
        obtain ⟨e1, e⟩ := badc hne
        rw [e]; subst e1
        exact ⟨h7, Nat.le_refl _, by simp only [VR]; rfl⟩
      | some m =>
        simp only at hne ⊢
        obtain ⟨e1, e⟩ := badc hne
        rw [e] at hne ⊢; subst e1; clear e
        obtain ⟨e1, e⟩ := badc hne
        rw [e]; subst e1
        exact ⟨Nat.zero_le _, h7, by simp only [VR]; rfl⟩
end Go.Sk
namespace Go.Sk
open Go Go.Sh Go.Lib
open Go.RowKit (Below)
theorem below_grown (w : World) (k : Nat) (os : Array Obj) : Below w.heap.size w (Go.Sort.grow (w.drewN k) os) := by
  refine ⟨rfl, rfl, rfl, ?_, fun q hq => ?_⟩
  · show w.heap.size ≤ (w.heap ++ os).size
    simp
  · show (w.heap ++ os)[q]? = w.heap[q]?
    rw [Array.getElem?_append_left hq]
/-- **Itoa's row, at an arity that is not known.** -/
theorem itoa_row {P : Program} {I : Rho → World → Prop} {f : FuncId} {s : ByteArray} {a : Int} (hb : (bodyOf P f).isSome = true) (htab : ∀ ρ w, I ρ w → TabIs P w "internal/strconv.uint64pow10" .u64 pow10Tab)
    (hc : ∀ w, TabIs P w "internal/strconv.uint64pow10" .u64 pow10Tab → Calls P f #[.int .i64 a] w fun e w' => e = .returned (.string ⟨(itoa a).toArray⟩) ∧ ∃ k os, w' = Go.Sort.grow (w.drewN k) os) :
    letI := opqKnows s a; KRowOk I P f ⟨0, [.opq 200], [], .opq 2, none⟩ := by
  letI := opqKnows s a
  refine ⟨hb, fun ρ w args' hI _ _ _ _ hargs => ?_⟩
  obtain ⟨v, vs, h1, h2, rfl⟩ := hargs.cons_inv
  rw [VRs.nil_iff] at h2
  subst h2
  simp only [VR] at h1
  have h1' : v = .int .i64 a := h1
  subst h1'
  refine (hc w (htab ρ w hI)).mono fun e w' he => ?_
  obtain ⟨rfl, k, os, rfl⟩ := he
  refine ⟨_, rfl, below_grown w k os, ?_⟩
  show VR ρ (.opq 2) (.string ⟨(itoa a).toArray⟩)
  simp only [VR]
  rfl
end Go.Sk
namespace Go.Sk
open Go Go.Sh Go.Lib
/-- the name is the literal L -/
theorem nm_lit {s : ByteArray} {L : List UInt8} (h : s.data.toList = L) (c : ByteArray) (b : Bool) (hb : some (eqStr c.size (natOf c.data.toList) L.length (natOf L)) = some b) : b = (s.data.toList == c.data.toList) := by
  cases hb
  have e : c.size = c.data.toList.length := by simp
  letI : Opq := opqNone
  rw [e, eqStr_eq, h]
  exact Bool.beq_comm
/-- the name is none of the literals -/
theorem nm_none {s : ByteArray} {T : List (Nat × Nat)} (h : ∀ x ∈ T, ¬ (s.size = x.1 ∧ natOf s.data.toList = x.2)) (c : ByteArray) (b : Bool)
    (hb : cond (T.any fun x => Nat.beq c.size x.1 && Nat.beq (natOf c.data.toList) x.2) (some false) none = some b) : b = (s.data.toList == c.data.toList) := by
  cases ha : (T.any fun x => Nat.beq c.size x.1 && Nat.beq (natOf c.data.toList) x.2) with
  | false => rw [ha] at hb; cases hb
  | true =>
    rw [ha] at hb
    cases hb
    obtain ⟨x, hx, hq⟩ := List.any_eq_true.1 ha
    rw [Bool.and_eq_true] at hq
    symm
    rw [beq_eq_false_iff_ne]
    intro e
    refine h x hx ⟨?_, ?_⟩
    · have e1 : s.size = s.data.toList.length := by simp
      have e2 : c.size = c.data.toList.length := by simp
      rw [e1, e, ← e2]
      exact Nat.eq_of_beq_eq_true hq.1
    · rw [e]
      exact Nat.eq_of_beq_eq_true hq.2
theorem ar_is {a : Int} {k : Nat} (h : a = k) (j : Nat) (b : Bool) (hb : some (Nat.beq j k) = some b) : b = decide (a = (j : Int)) := by
  cases hb
  subst h
  rw [Bool.eq_iff_iff, decide_eq_true_iff]
  constructor
  · intro h; rw [Nat.eq_of_beq_eq_true h]
  · intro h; have : k = j := by omega
    subst this; exact Nat.beq_refl _
theorem ar_not {a : Int} {ex : List Nat} (h : ∀ k ∈ ex, a ≠ (k : Int)) (j : Nat) (b : Bool) (hb : cond (ex.any (Nat.beq j)) (some false) none = some b) : b = decide (a = (j : Int)) := by
  cases ha : ex.any (Nat.beq j) with
  | false => rw [ha] at hb; cases hb
  | true =>
    rw [ha] at hb
    cases hb
    obtain ⟨x, hx, hq⟩ := List.any_eq_true.1 ha
    have := Nat.eq_of_beq_eq_true hq
    subst this
    symm
    exact decide_eq_false (h j hx)
end Go.Sk
namespace Go.Sk
open Go Go.Sh Go.Lib
/-- a name without a slash that is not concat: the key does not begin with "concat/" -/
theorem pre_lit {s t : List UInt8} (h1 : (47 : UInt8) ∉ s) (h2 : s ≠ [99, 111, 110, 99, 97, 116]) : ((s ++ 47 :: t).take 7 == cat7) = false := by
  rw [beq_eq_false_iff_ne]
  intro e
  unfold cat7 at e
  match s, h1, h2, e with
  | [], _, _, e => simp at e
  | [a], _, _, e => simp at e
  | [a, b], _, _, e => simp at e
  | [a, b, c], _, _, e => simp at e
  | [a, b, c, d], _, _, e => simp at e
  | [a, b, c, d, f], _, _, e => simp at e
  | [a, b, c, d, f, g], _, h2, e => simp at e; exact h2 (by simp [e])
  | a :: b :: c :: d :: f :: g :: x :: s, h1, _, e => simp at e; exact h1 (by simp [e])
end Go.Sk
namespace Go.Sk
open Go Go.Sh Go.Lib
open Go.RowKit (Below)
variable {P : Program}
theorem krow_anti [Opq] {I I' : Rho → World → Prop} {f : FuncId} {r : KRow} (h : ∀ ρ w, I' ρ w → I ρ w) (hk : KRowOk I P f r) : KRowOk I' P f r :=
  ⟨hk.body, fun ρ w args hI => hk.calls ρ w args (h ρ w hI)⟩
/-- what is laid, and a table with it -/
def TabI [Opq] (P : Program) (nm : String) (k : IntKind) (zs : List Int) (K : Hp) (ρ0 : Rho) (n0 : Nat) (ρ : Rho) (w : World) : Prop := LaidI K ρ0 n0 ρ w ∧ TabIs P w nm k zs ∧ ∀ g, P.globalNamed nm = some g → g < n0
theorem tab_below {nm : String} {k : IntKind} {zs : List Int} {w w' : World} {n : Nat} (h : TabIs P w nm k zs) (hn : ∀ g, P.globalNamed nm = some g → g < n) (hB : Below n w w') : TabIs P w' nm k zs := by
  unfold TabIs at h ⊢
  rw [← h]
  unfold World.var?
  cases hg : P.globalNamed nm with
  | none => rfl
  | some g =>
    simp only [Option.bind_some]
    rw [hB.block g (hn g hg)]
theorem TabI.ki [Opq] {nm : String} {k : IntKind} {zs : List Int} {K : Hp} {ρ0 : Rho} {n0 : Nat} (ro : ∀ b, writable (K.get b) = false) : KI (TabI P nm k zs K ρ0 n0) K where
  live ρ w h := (LaidI.ki ro).live ρ w h.1
  ro := ro
  bound _ w h := ⟨⟨w.heap.size, fun ρ ρ' w1 w2 h1 hle hB => ⟨LaidI.stable h.1.2.1 ρ ρ' w1 w2 h1.1 hle hB,
    tab_below h1.2.1 (fun g hg => Nat.lt_of_lt_of_le (h1.2.2 g hg) h.1.2.1) hB, h1.2.2⟩⟩, rfl⟩
/-- a table that is listed -/
theorem tab_of_laid {w : World} {l : List (String × DataW Unit)} (h : laidMet P l w) {name : String} {k : IntKind} {zs : List Int} (hx : (name, tabData k zs) ∈ l) {g : Nat} {t e : TypeId} {n : Nat}
    (hg : P.globalNamed name = some g) (hty : (P.globals[g]?).map (·.type) = some t) (ht : P.underlying t = some (.array n e)) (he : P.underlying e = some (.int k)) (hce : P.cellsOf e = 1) (hct : P.cellsOf t = n) : TabIs P w name k zs := by
  obtain ⟨ps, hl, _⟩ := h
  letI : Opq := opqNone
  obtain ⟨g', t', cs, fuel, p, h1, h2, h3, h4⟩ := laid_mem hl _ hx
  obtain rfl := Option.some.inj (hg.symm.trans h1)
  obtain rfl := Option.some.inj (hty.symm.trans h2)
  have := cells_of_tab ht he hce hct h4
  unfold TabIs
  rw [h3]
  congr 1
  apply Array.ext'
  rw [this]
/-- **A law with arguments, out of a row of calls at them, where a table is laid.** -/
theorem calls_args_tab [Opq] {G : Nat} {bs : List (Nat × Nat × List SV)} {laid : List (String × DataW Unit)} {f : FuncId} {al : List SV} {vs : List Value} {nm : String} {k : IntKind} {zs : List Int} (hG : P.globals.size = G) (has : ∀ ρ : Rho, VRs ρ al vs)
    (hrow : ∀ (ρ0 : Rho) (n0 : Nat), (∀ b, G ≤ b → ρ0 b = none) → KRowOk (TabI P nm k zs (rowHp .e bs) ρ0 n0) P f ⟨G, al, [], .bool true, none⟩)
    (hbs : ∀ x ∈ bs, x.1 < G ∧ ∃ n d t m, (n, d) ∈ laid ∧ P.globalNamed n = some x.1 ∧ (P.globals[x.1]?).map (·.type) = some t ∧ plS P m t d = some x.2.2)
    (hz : ((List.range P.globals.size).all fun g => (((begin P (fun _ _ => 0) default).world.heap[g]?).bind Obj.row?).isSome) = true)
    {W : World} (hsh : W.ShapedOpen P) (hL : laidMet P laid W) (hT : TabIs P W nm k zs) (hTG : ∀ g, P.globalNamed nm = some g → g < G) : Calls P f vs.toArray W (fun e w' => e = .returned (.bool true) ∧ RowKit.Below W.heap.size W w') := by
  let ρ0 : Rho := fun g => if g < G then some (g, 0, 0) else none
  have hat : ∀ b x, ρ0 b = some x → b < G ∧ x = (b, 0, 0) := fun b x h => by
    simp only [ρ0] at h
    split at h
    · rename_i hb; cases h; exact ⟨hb, rfl⟩
    · cases h
  have hin : ∀ b, b < G → ρ0 b = some (b, 0, 0) := fun b h => by simp only [ρ0]; rw [if_pos h]
  have hno : ∀ b, G ≤ b → ρ0 b = none := fun b hb => by simp only [ρ0]; rw [if_neg (by omega)]
  have hl : ∀ b q base e, ρ0 b = some (q, base, e) → q < W.heap.size ∧ BR ρ0 base e ((rowHp .e bs).get b) W.heap[q]? := fun b q base e h => by
    obtain ⟨hb, hx⟩ := hat b _ h
    cases hx
    refine ⟨shape_size hsh hz (by rw [hG]; exact hb), ?_⟩
    rcases rowHp_get .e bs b with h | h | ⟨x, hx, rfl, h⟩
    · rw [h, Hp.get_e]; simp [BR]
    · rw [h]; simp [BR]
    · rw [h]
      obtain ⟨_, n, d, t, m, h1, h2, h3, h4⟩ := hbs x hx
      exact laid_block hL h1 h2 h3 h4 ρ0 _
  have hdom : ∀ b, isNone ((rowHp .e bs).get b) = false → ∃ x, ρ0 b = some x := fun b hn => by
    rcases rowHp_get .e bs b with h | h | ⟨x, hx, rfl, _⟩
    · rw [h, Hp.get_e] at hn; cases hn
    · rw [h] at hn; cases hn
    · exact ⟨_, hin x.1 (hbs x hx).1⟩
  refine ((hrow ρ0 W.heap.size hno).calls ρ0 W vs ⟨⟨Rho.le_refl _, Nat.le_refl _, hdom, hl⟩, hT, fun g hg => shape_size hsh hz (by rw [hG]; exact hTG g hg)⟩ (fun g hg => ⟨0, hin g (by omega)⟩) (fun _ => hno) (fun b q base e hq => (hl b q base e hq).1) (fun x hx => by cases hx) (has ρ0)).mono fun e w' he => ?_
  obtain ⟨v, rfl, hB, h3⟩ := he
  unfold RowEnd at h3
  have hv : VR ρ0 (.bool true) v := h3
  simp only [VR] at hv
  subst hv
  exact ⟨rfl, hB⟩
end Go.Sk
namespace Go.Sk
open Go Go.Sh Go.Lib
def cat6 : List UInt8 := [99, 111, 110, 99, 97, 116]
def digits10 : List Nat := [0, 1, 2, 3, 4, 5, 6, 7, 8, 9]
theorem keyB_size (s : ByteArray) (a : Int) : (keyB s a).size = s.size + 1 + (itoa a).length := by
  have h := congrArg List.length (keyB_list s a)
  simp at h
  omega
theorem itoa_pos (a : Int) : 1 ≤ (itoa a).length := by
  have := itoa_ne a
  cases h : itoa a with
  | nil => exact absurd h this
  | cons c l => simp
theorem ar_no {a : Int} (j : Nat) (b : Bool) (h : skNo1 j = some b) : b = decide (a = (j : Int)) := by cases h
theorem nm_no {s : ByteArray} (c : ByteArray) (b : Bool) (h : skNo2 c.size (natOf c.data.toList) = some b) : b = (s.data.toList == c.data.toList) := by cases h
/-- with the prefix the key is long -/
theorem pre_lng {s : ByteArray} {a : Int} (h : ((keyB s a).data.toList.take 7 == cat7) = true) : 7 ≤ (keyB s a).size := by
  have h1 := congrArg List.length (eq_of_beq h)
  have h2 : (keyB s a).data.toList.length = (keyB s a).size := by simp
  simp only [List.length_take, h2] at h1
  have h3 : cat7.length = 7 := rfl
  omega
theorem sk_cases {T : List (List UInt8 × List Nat)} (hT : (T.all fun x => !x.1.contains 47 && !(x.1 == cat6)) = true) {s : ByteArray} {a : Int} (hlo : -9223372036854775808 ≤ a) (hhi : a ≤ 9223372036854775807) {Q : Prop}
    {Run : (Nat → Nat → Option Bool) → (Nat → Option Bool) → Bool → Bool → Bool → Prop} (go : ∀ nm ar long lng pre, SkOk s a nm ar long lng pre → Run nm ar long lng pre → Q)
    (hlong : ∀ lng pre, Run skNo2 skNo1 true lng pre)
    (hlit : ∀ x ∈ T, ∀ lng, (lng = false → x.1.length < 5) → Run (skNmL x.1.length (natOf x.1)) (skArNot x.2) false lng false ∧ ∀ k ∈ x.2, Run (skNmL x.1.length (natOf x.1)) (skArIs k) false lng false)
    (hcat : Run (skNmL 6 (natOf cat6)) (skArNot digits10) false true true)
    (hnone : ∀ lng pre, (pre = true → lng = true) → Run (skNmT ((6, natOf cat6) :: T.map fun x => (x.1.length, natOf x.1))) skNo1 false lng pre)
    (hnot : ¬ (s.data.toList = cat6 ∧ ∃ d : Nat, d < 10 ∧ a = d)) : Q := by
  have hsz : s.data.toList.length = s.size := by simp
  have hks := keyB_size s a
  have hip := itoa_pos a
  by_cases hl : 200 < s.size
  · refine go skNo2 skNo1 true _ _ ⟨nm_no, ar_no, by simp [hl], rfl, rfl, fun _ => ?_, hlo, hhi⟩ (hlong _ _)
    exact hnot
  · have hl' : false = decide (200 < s.size) := by simp [hl]
    by_cases hm : ∃ x ∈ T, x.1 = s.data.toList
    · obtain ⟨x, hx, he⟩ := hm
      have h1 := List.all_eq_true.1 hT x hx
      rw [Bool.and_eq_true, Bool.not_eq_true', Bool.not_eq_true'] at h1
      have h47 : (47 : UInt8) ∉ s.data.toList := by
        rw [← he]
        intro h
        rw [List.contains_eq_mem, decide_eq_false_iff_not] at h1
        exact h1.1 h
      have hc : s.data.toList ≠ cat6 := by
        rw [← he]
        intro h
        rw [h] at h1
        simp at h1
      have hpre : false = ((keyB s a).data.toList.take 7 == cat7) := by rw [keyB_list, pre_lit h47 hc]
      have hlen : x.1.length = s.size := by rw [he, hsz]
      obtain ⟨r1, r2⟩ := hlit x hx (decide (7 ≤ (keyB s a).size)) (fun h => by have := of_decide_eq_false h; omega)
      have hn : ∀ (c : ByteArray) (b : Bool), skNmL x.1.length (natOf x.1) c.size (natOf c.data.toList) = some b → b = (s.data.toList == c.data.toList) := by
        intro c b hb
        unfold skNmL at hb
        rw [he] at hb
        exact nm_lit rfl c b hb
      by_cases hk : ∃ k ∈ x.2, a = (k : Int)
      · obtain ⟨k, hk, e⟩ := hk
        exact go _ _ _ _ _ ⟨hn, ar_is e, hl', rfl, hpre, (fun h => by cases h), hlo, hhi⟩ (r2 k hk)
      · exact go _ _ _ _ _ ⟨hn, ar_not (fun k hk' e => hk ⟨k, hk', e⟩), hl', rfl, hpre, (fun h => by cases h), hlo, hhi⟩ r1
    · by_cases hc : s.data.toList = cat6
      · have h6 : s.size = 6 := by rw [← hsz, hc]; rfl
        have hd : ∀ d ∈ digits10, a ≠ (d : Int) := fun d hd e => hnot ⟨hc, d, by
          unfold digits10 at hd
          simp only [List.mem_cons, List.not_mem_nil, or_false] at hd
          omega, e⟩
        refine go _ _ _ _ _ ⟨fun c b hb => ?_, ar_not hd, hl', ?_, ?_, fun _ => hnot, hlo, hhi⟩ hcat
        · unfold skNmL at hb
          exact nm_lit (L := cat6) hc c b hb
        · symm
          rw [decide_eq_true_iff]
          omega
        · rw [keyB_list, hc]
          cases h : itoa a with
          | nil => exact absurd h (itoa_ne a)
          | cons c l => rfl
      · refine go (skNmT ((6, natOf cat6) :: T.map fun x => (x.1.length, natOf x.1))) skNo1 false (decide (7 ≤ (keyB s a).size)) ((keyB s a).data.toList.take 7 == cat7) ⟨fun c b hb => ?_, ar_no, hl', rfl, rfl, fun _ => hnot, hlo, hhi⟩ (hnone _ _ fun h => ?_)
        · unfold skNmT at hb
          refine nm_none (s := s) (T := (6, natOf cat6) :: T.map fun x => (x.1.length, natOf x.1)) (fun y hy => ?_) c b hb
          rintro ⟨e1, e2⟩
          rcases List.mem_cons.1 hy with rfl | hy
          · exact hc (natOf_inj _ _ (by rw [hsz, e1]; rfl) e2)
          · obtain ⟨x, hx, rfl⟩ := List.mem_map.1 hy
            exact hm ⟨x, hx, (natOf_inj _ _ (by rw [hsz, e1]) e2).symm⟩
        · exact decide_eq_true (pre_lng h)
end Go.Sk
