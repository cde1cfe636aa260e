/- Part of a proof that a closed law answers true: the evaluator of the first text is sound; this text is one step of it. No condition. -/
import Derived.Test.YtbnplpeodjknaaaGreatDoorShF
import Derived.Laws.StructEq
set_option linter.unusedSectionVars false
set_option linter.unusedSimpArgs false
set_option linter.unusedVariables false
namespace Go.Sh
variable [Opq]
open Go.RowKit (Below)
variable {I : Rho → World → Prop}
variable {P : Program} {ρ : Rho} {N : Bound I} {s : St} {w : World} {k0 : Prop}

/-! ## numbers -/
theorem intBin_sound {op : BinOp} {t : TypeId} {k k' : IntKind} {a b : Int} (h : intBin op k a k' b ≠ .bad) : ∃ v, (binOp op t (.int k a) (.int k' b)).run P w = .ok v w ∧ VR ρ (intBin op k a k' b) v := by
  have key : ∀ op', op' ≠ .shl → op' ≠ .shr → intBin op' k a k' b ≠ .bad → k = k' ∧ intBin op' k a k' b = intOp op' k a b := by
    intro op' h1 h2 h3
    cases hk : eqK k k' with
    | true => exact ⟨(eqK_eq k k').1 hk, by cases op' <;> first | exact absurd rfl h1 | exact absurd rfl h2 | simp [intBin, hk]⟩
    | false => exfalso; apply h3; cases op' <;> first | exact absurd rfl h1 | exact absurd rfl h2 | simp [intBin, hk]
  cases op
  case shl =>
    simp only [intBin] at h ⊢
    cases b with
    | negSucc n => simp [shlS] at h
    | ofNat n =>
      refine ⟨_, by simp [binOp, Op.shift]; rfl, ?_⟩
      simp only [shlS, VR, wrapF_eq, minN_eq]
      congr 2
  case shr =>
    simp only [intBin] at h ⊢
    cases b with
    | negSucc n => simp [shrS] at h
    | ofNat n =>
      refine ⟨_, by simp [binOp, Op.shift]; rfl, ?_⟩
      simp only [shrS, VR, minN_eq]
      congr 1
  all_goals
    obtain ⟨hkk, he⟩ := key _ (by simp) (by simp) h
    subst hkk
    rw [he] at h ⊢
    simp only [intOp] at h ⊢
  case quo =>
    by_cases hb : eqI b 0 = true
    · rw [hb] at h; simp at h
    · simp only [Bool.not_eq_true] at hb
      rw [hb, cond_false]
      rw [eqI_eq] at hb
      have hb' : b ≠ 0 := by simpa using hb
      exact ⟨_, by simp [binOp, Op.intDiv, hb']; rfl, by simp [VR, wrapF_eq]⟩
  case rem =>
    by_cases hb : eqI b 0 = true
    · rw [hb] at h; simp at h
    · simp only [Bool.not_eq_true] at hb
      rw [hb, cond_false]
      rw [eqI_eq] at hb
      have hb' : b ≠ 0 := by simpa using hb
      exact ⟨_, by simp [binOp, Op.intDiv, hb']; rfl, by simp [VR]⟩
  case add => exact ⟨_, by simp [binOp, Op.intArith]; rfl, by simp only [VR, wrapF_eq]; rfl⟩
  case sub => exact ⟨_, by simp [binOp, Op.intArith]; rfl, by simp only [VR, wrapF_eq]; rfl⟩
  case mul => exact ⟨_, by simp [binOp, Op.intArith]; rfl, by simp only [VR, wrapF_eq]; rfl⟩
  case and => exact ⟨_, by simp [binOp, Op.intBits]; rfl, by simp [VR]⟩
  case or => exact ⟨_, by simp [binOp, Op.intBits]; rfl, by simp [VR]⟩
  case xor => exact ⟨_, by simp [binOp, Op.intBits]; rfl, by simp [VR]⟩
  case andNot => exact ⟨_, by simp [binOp, Op.intBits]; rfl, by simp [VR]⟩
  case eql => exact ⟨_, by simp [binOp, Op.intCmp]; rfl, by simp [VR, eqI_eq]⟩
  case neq => exact ⟨_, by simp [binOp, Op.intCmp]; rfl, by simp [VR, eqI_eq]; rfl⟩
  case lss => exact ⟨_, by simp [binOp, Op.intCmp]; rfl, by simp [VR, ltI_eq]⟩
  case leq => exact ⟨_, by simp [binOp, Op.intCmp]; rfl, by simp only [VR, ltI_eq]; rw [← decide_not]; simp [Int.not_lt]⟩
  case gtr => exact ⟨_, by simp [binOp, Op.intCmp]; rfl, by simp [VR, ltI_eq]⟩
  case geq => exact ⟨_, by simp [binOp, Op.intCmp]; rfl, by simp only [VR, ltI_eq]; rw [← decide_not]; simp [Int.not_lt]⟩
  all_goals exact absurd rfl h

/-! ## strings -/
def SR (b : ByteArray) (len n : Nat) : Prop := b.size = len ∧ natOf b.data.toList = n
theorem SR.len {b : ByteArray} {len n : Nat} (h : SR b len n) : b.data.toList.length = len := by have := h.1; simpa using this
theorem natOf_mod (c : UInt8) (cs : List UInt8) : natOf (c :: cs) % 256 = c.toNat := by
  rw [natOf_cons]; have := c.toNat_lt; omega
theorem natOf_div (c : UInt8) (cs : List UInt8) : natOf (c :: cs) / 256 = natOf cs := by
  rw [natOf_cons]; have := c.toNat_lt; omega
theorem eqStr_eq {a b : List UInt8} : eqStr a.length (natOf a) b.length (natOf b) = (a == b) := by
  unfold eqStr
  cases h : Nat.beq a.length b.length with
  | false =>
    rw [cond_false]
    symm
    rw [beq_eq_false_iff_ne]
    intro e
    subst e
    simp at h
  | true =>
    rw [cond_true]
    have hl := Nat.eq_of_beq_eq_true h
    cases h2 : Nat.beq (natOf a) (natOf b) with
    | true => rw [natOf_inj a b hl (Nat.eq_of_beq_eq_true h2)]; simp
    | false =>
      symm
      rw [beq_eq_false_iff_ne]
      intro e
      subst e
      simp at h2
theorem strLess_eq : ∀ (a b : List UInt8), strLess a.length (natOf a) b.length (natOf b) = Op.bytesLess a b
  | [], [] => by simp [strLess, Op.bytesLess]
  | [], _ :: _ => by simp only [List.length_nil, List.length_cons, strLess, Op.bytesLess]; rfl
  | c :: cs, [] => by simp [strLess, Op.bytesLess]
  | c :: cs, e :: es => by
    simp only [List.length_cons, strLess, Op.bytesLess]
    have h0 : Nat.beq (es.length + 1) 0 = false := rfl
    rw [h0, cond_false]
    have m1 : Nat.mod (natOf (c :: cs)) 256 = c.toNat := natOf_mod c cs
    have m2 : Nat.mod (natOf (e :: es)) 256 = e.toNat := natOf_mod e es
    have d1 : Nat.div (natOf (c :: cs)) 256 = natOf cs := natOf_div c cs
    have d2 : Nat.div (natOf (e :: es)) 256 = natOf es := natOf_div e es
    rw [m1, m2, d1, d2]
    have hp : Nat.pred (es.length + 1) = es.length := rfl
    rw [hp, strLess_eq cs es]
    by_cases hlt : c < e
    · have : Nat.ble (Nat.succ c.toNat) e.toNat = true := Nat.ble_eq_true_of_le (UInt8.lt_iff_toNat_lt.1 hlt)
      rw [this]; simp [hlt]
    · have : Nat.ble (Nat.succ c.toNat) e.toNat = false := by
        cases hb : Nat.ble (Nat.succ c.toNat) e.toNat with
        | false => rfl
        | true => exact absurd (UInt8.lt_iff_toNat_lt.2 (Nat.le_of_ble_eq_true hb)) hlt
      rw [this, cond_false]
      by_cases he : c = e
      · subst he; simp
      · have : Nat.beq c.toNat e.toNat = false := by
          cases hb : Nat.beq c.toNat e.toNat with
          | false => rfl
          | true => exact absurd (UInt8.toNat_inj.1 (Nat.eq_of_beq_eq_true hb)) he
        rw [this]; simp [hlt, he]
theorem bytesLess_total : ∀ (a b : List UInt8), Op.bytesLess b a = !(Op.bytesLess a b || a == b)
  | [], [] => by simp [Op.bytesLess]
  | [], _ :: _ => by simp [Op.bytesLess]
  | c :: cs, [] => by simp [Op.bytesLess]
  | c :: cs, e :: es => by
    simp only [Op.bytesLess, bytesLess_total cs es]
    rcases Nat.lt_trichotomy c.toNat e.toNat with h | h | h
    · have h1 : c < e := UInt8.lt_iff_toNat_lt.2 h
      have h2 : ¬ e < c := fun k => by have := UInt8.lt_iff_toNat_lt.1 k; omega
      have h3 : c ≠ e := fun k => by subst k; omega
      have h4 : e ≠ c := fun k => h3 k.symm
      simp [h1, h2, h4]
    · have h1 : c = e := UInt8.toNat_inj.1 h
      subst h1
      simp
    · have h1 : e < c := UInt8.lt_iff_toNat_lt.2 h
      have h2 : ¬ c < e := fun k => by have := UInt8.lt_iff_toNat_lt.1 k; omega
      have h3 : c ≠ e := fun k => by subst k; omega
      simp [h1, h2, h3]
theorem strOp_sound {op : BinOp} {t : TypeId} {la na lb nb : Nat} {a b : ByteArray} (ha : SR a la na) (hb : SR b lb nb) (h : strOp op la na lb nb ≠ .bad) :
    ∃ v, (binOp op t (.string a) (.string b)).run P w = .ok v w ∧ VR ρ (strOp op la na lb nb) v := by
  obtain ⟨ha1, rfl⟩ := ha
  obtain ⟨hb1, rfl⟩ := hb
  have ha1' : la = a.data.toList.length := by rw [← ha1]; simp
  have hb1' : lb = b.data.toList.length := by rw [← hb1]; simp
  have hta := ByteArray.toList_eq (bs := a)
  have htb := ByteArray.toList_eq (bs := b)
  cases op <;> simp only [strOp] at h ⊢
  case add =>
    cases hl : Nat.ble (Nat.add la lb) 1073741824 with
    | false => rw [hl] at h; simp at h
    | true =>
      rw [cond_true]
      have hl' : la + lb ≤ 1073741824 := Nat.le_of_ble_eq_true hl
      refine ⟨.string (a ++ b), ?_, ?_⟩
      · simp [binOp, Op.stringOp]
        omega
      · simp only [strCat, VR]
        refine ⟨a ++ b, rfl, ?_, ?_⟩
        · simp [ByteArray.size_append, ha1, hb1]
        · rw [ByteArray.data_append, Array.toList_append, natOf_append, ha1']
          rfl
  case eql => exact ⟨_, rfl, by simp only [VR]; rw [ha1', hb1', eqStr_eq, hta, htb]⟩
  case neq => exact ⟨_, rfl, by simp only [VR]; rw [ha1', hb1', eqStr_eq, hta, htb]⟩
  case lss => exact ⟨_, rfl, by simp only [VR]; rw [ha1', hb1', strLess_eq, hta, htb]⟩
  case geq => exact ⟨_, rfl, by simp only [VR]; rw [ha1', hb1', strLess_eq, hta, htb]⟩
  case leq => exact ⟨_, rfl, by simp only [VR]; rw [ha1', hb1', strLess_eq, hta, htb, bytesLess_total a.data.toList b.data.toList, Bool.not_not]⟩
  case gtr => exact ⟨_, rfl, by simp only [VR]; rw [ha1', hb1', strLess_eq, hta, htb, bytesLess_total a.data.toList b.data.toList]⟩
  all_goals exact absurd rfl h

/-! ## parts of structs -/
theorem takeN_vrs {cs : List SV} {l : List Value} {off n : Nat} {ds : List SV} (hc : VRs ρ cs l) (h : takeN n (dropN off cs) = some ds) : VRs ρ ds ((l.drop off).take n) := by
  obtain ⟨h1, h2⟩ := takeN_some n _ ds h
  rw [dropN_eq] at h1 h2
  have hl := hc.len
  refine VRs.of_get (by subst h1; simp; omega) fun i x v hx hv => ?_
  subst h1
  rw [List.getElem?_take] at hx hv
  by_cases hi : i < n
  · rw [if_pos hi, List.getElem?_drop] at hx hv
    obtain ⟨u, h3, h4⟩ := hc.get _ _ hx
    rw [h3] at hv; cases hv; exact h4
  · rw [if_neg hi] at hx; cases hx
theorem partV_sound {t : TypeId} {cs : List SV} {l : Array Value} {off : Nat} (hc : VRs ρ cs l.toList) (h : partV P t cs off ≠ .bad) :
    ∃ v, (∀ w : World, (part t l off).run P w = .ok v w) ∧ VR ρ (partV P t cs off) v := by
  unfold partV at h ⊢
  split at h
  · rename_i dd hd
    cases ha : isAggD dd with
    | true =>
      rw [ha, cond_true] at h
      rw [cond_true]
      split at h
      · rename_i n hn
        obtain ⟨ds, h1, h2⟩ := optAgg_some h
        have hv := takeN_vrs hc h1
        refine ⟨.agg (l.extract off (off + n)), fun w => ?_, ?_⟩
        · simp [part, run_isAgg hd, ha, run_sizeOf hn]
        · rw [h2]
          simp only [VR]
          refine ⟨_, hv, ?_⟩
          congr 1
          apply Array.ext'
          simp [Nat.add_sub_cancel_left]
      · exact absurd rfl h
    | false =>
      rw [ha, cond_false] at h
      rw [cond_false]
      have h0 := headC_some h
      rw [dropN_eq] at h0 h
      rw [dropN_eq]
      have h1 : cs[off]? = some (headC (List.drop off cs)) := by rw [← h0]; simp
      obtain ⟨u, h3, h4⟩ := hc.get _ _ h1
      refine ⟨u, fun w => ?_, h4⟩
      rw [Array.getElem?_toList] at h3
      simp [part, run_isAgg hd, ha, h3]
  · exact absurd rfl h

/-! ## equality -/
structure EOk (P : Program) (E : EE) : Prop where
  eq : ∀ t, E.e t = true → P.stoodInHeld t = false ∧ P.eqGuardType P.depth t = false
  op : ∀ (op : BinOp) (t : TypeId) (x y : SV) (v u : Value) (w : World) (ρ : Rho), E.o op x y ≠ .bad → VR ρ x v → VR ρ y u → ∃ r, (binOp op t v u).run P w = .ok r w ∧ VR ρ (E.o op x y) r
theorem eqB_bool (a b : Bool) : eqB a b = (a == b) := eqB_eq a b
theorem sameAddr_cells (H : Rel ρ N s w) {b b' r base e o r' base' e' o' : Nat} (hb : ρ b = some (r, base, e)) (hb' : ρ b' = some (r', base', e')) (hne : Nat.beq b b' = false) (hc : isCells (s.h.get b) = true) (hc' : isCells (s.h.get b') = true) :
    (sameAddr ⟨r, o, none⟩ ⟨r', o', none⟩).run P w = .ok false w := by
  have hrr : r ≠ r' := by
    intro e1
    subst e1
    have := H.inj _ _ _ _ _ _ _ hb hb' (by cases hg : s.h.get b <;> rw [hg] at hc <;> simp [isCells] at hc; simp [writable]) (by cases hg : s.h.get b' <;> rw [hg] at hc' <;> simp [isCells] at hc'; rfl)
    subst this
    simp at hne
  have hl := H.live _ _ _ _ hb
  have hl' := H.live _ _ _ _ hb'
  cases hg : s.h.get b <;> rw [hg] at hc hl <;> simp [isCells] at hc
  cases hg' : s.h.get b' <;> rw [hg'] at hc' hl' <;> simp [isCells] at hc'
  rename_i ty1 cs1 ty2 cs2
  obtain ⟨rc, ho, _⟩ := hl
  obtain ⟨rc', ho', _⟩ := hl'
  have f1 : ∀ o, w.frozen? ⟨r, o, none⟩ = false := fun o => frozen_at ho o (by simp)
  have f2 : ∀ o, w.frozen? ⟨r', o, none⟩ = false := fun o => frozen_at ho' o (by simp)
  have s1 : w.shape? r = some (ty1, rc.size) := by simp [World.shape?, ho]
  have s2 : w.shape? r' = some (ty2, rc'.size) := by simp [World.shape?, ho']
  simp [sameAddr, hrr, f1, f2, noView, viewAt, s1, s2, mayBeOne, stringish]
theorem addr_beq (r base o o' : Nat) : ((⟨r, base + o, none⟩ : Addr) == ⟨r, base + o', none⟩) = Nat.beq o o' := by
  cases h : Nat.beq o o' with
  | true => rw [Nat.eq_of_beq_eq_true h]; simp
  | false =>
    rw [beq_eq_false_iff_ne]
    intro e
    have : o = o' := by injection e; omega
    subst this
    simp at h
theorem eqT_bad {E : EE} {h : Hp} {n : Nat} {t : TypeId} {x y : SV} {r : Bool} (hq : eqT E P h n t x y = some r) : x ≠ .bad ∧ y ≠ .bad := by
  cases n with
  | zero => simp [eqT] at hq
  | succ n =>
    simp only [eqT] at hq
    constructor
    · intro e
      subst e
      split at hq
      · split at hq
        all_goals first
          | (simp at hq; done)
          | (cases y <;> simp at hq; done)
          | (cases hE : E.e t <;> rw [hE] at hq <;> cases y <;> simp at hq; done)
      · cases hq
    · intro e
      subst e
      split at hq
      · split at hq
        all_goals first
          | (simp at hq; done)
          | (cases x <;> simp at hq; done)
          | (cases hE : E.e t <;> rw [hE] at hq <;> cases x <;> simp at hq; done)
      · cases hq
theorem eqT_sound {E : EE} (hE : EOk P E) (H : Rel ρ N s w) : ∀ (n m : Nat), n ≤ m → ∀ (t : TypeId) (x y : SV) (vx vy : Value) (r : Bool), eqT E P s.h n t x y = some r → (x ≠ .bad → VR ρ x vx) → (y ≠ .bad → VR ρ y vy) →
    (Op.equalIn m t vx vy).run P w = .ok r w
  | 0, _, _, _, _, _, _, _, _, h, _, _ => by simp [eqT] at h
  | n + 1, 0, hm, _, _, _, _, _, _, _, _, _ => by omega
  | n + 1, m + 1, hm, t, x, y, vx, vy, r, h, hx, hy => by
    simp only [eqT] at h
    split at h
    · rename_i dd hd
      split at h
      · -- bool
        split at h
        · simp only [VR] at hx hy
          have hx := hx (by simp); have hy := hy (by simp)
          subst hx hy
          cases h
          simp [Op.equalIn, run_underlying hd, eqB_eq]
        · cases h
      · -- int
        rename_i k0
        split at h
        · rename_i k a k' b
          simp only [VR] at hx hy
          have hx := hx (by simp); have hy := hy (by simp)
          subst hx hy
          cases hk : eqK k k' with
          | false => rw [hk] at h; simp at h
          | true =>
            rw [hk] at h
            have := (eqK_eq k k').1 hk
            subst this
            cases h
            simp [Op.equalIn, run_underlying hd, eqI_eq]
        · cases h
      · -- string
        split at h
        · rename_i la na lb nb
          simp only [VR] at hx hy
          obtain ⟨a, rfl, ha⟩ := hx (by simp); obtain ⟨b, rfl, hb⟩ := hy (by simp)
          cases h
          rw [run_equalIn_string w m t a b hd]
          have h1 := SR.len ha
          have h2 := SR.len hb
          rw [← h1, ← h2, ← ha.2, ← hb.2, eqStr_eq, ByteArray.toList_eq, ByteArray.toList_eq]
        · cases h
      · -- pointer
        rename_i e0
        split at h
        · simp only [VR] at hx hy
          have hx := hx (by simp); have hy := hy (by simp)
          subst hx hy; cases h
          simp [Op.equalIn, run_underlying hd]
        · simp only [VR] at hx hy
          have hx := hx (by simp); obtain ⟨_, _, _, _, hy⟩ := hy (by simp)
          subst hx hy; cases h
          simp [Op.equalIn, run_underlying hd]
        · simp only [VR] at hx hy
          obtain ⟨_, _, _, _, hx⟩ := hx (by simp); have hy := hy (by simp)
          subst hx hy; cases h
          simp [Op.equalIn, run_underlying hd]
        · rename_i b o b' o'
          split at h
          · rename_i n0 hsz
            simp only [VR] at hx hy
            obtain ⟨r1, base1, e1, hb1, hx⟩ := hx (by simp); obtain ⟨r2, base2, e2, hb2, hy⟩ := hy (by simp)
            subst hx hy
            have heq : (Op.equalIn (m + 1) t (.pointer (some ⟨r1, base1 + o, none⟩)) (.pointer (some ⟨r2, base2 + o', none⟩))).run P w = (sameAddr ⟨r1, base1 + o, none⟩ ⟨r2, base2 + o', none⟩).run P w := by
              simp [Op.equalIn, run_underlying hd, run_sizeOf hsz]
            rw [heq]
            cases hbb : Nat.beq b b' with
            | true =>
              rw [hbb] at h
              have := Nat.eq_of_beq_eq_true hbb
              subst this
              rw [hb1] at hb2; cases hb2
              simp at h
              subst h
              rw [← addr_beq r1 base1 o o']
              simp [sameAddr]
            | false =>
              rw [hbb, cond_false] at h
              cases hc : isCells (s.h.get b) with
              | false => rw [hc] at h; simp at h
              | true =>
                cases hc' : isCells (s.h.get b') with
                | false => rw [hc, hc'] at h; simp at h
                | true =>
                  rw [hc, hc'] at h
                  simp at h
                  subst h
                  exact sameAddr_cells H hb1 hb2 hbb hc hc'
          · cases h
        · cases h
      · -- interface
        split at h
        · simp only [VR] at hx hy
          have hx := hx (by simp); have hy := hy (by simp)
          subst hx hy; cases h
          simp [Op.equalIn, run_underlying hd]
        · simp only [VR] at hx hy
          have hx := hx (by simp); obtain ⟨_, _, hy⟩ := hy (by simp)
          subst hx hy; cases h
          simp [Op.equalIn, run_underlying hd]
        · simp only [VR] at hx hy
          obtain ⟨_, _, hx⟩ := hx (by simp); have hy := hy (by simp)
          subst hx hy; cases h
          simp [Op.equalIn, run_underlying hd]
        · cases h
      · -- slice
        split at h
        · simp only [VR] at hy
          have hy := hy (by simp)
          subst hy
          split at h
          · simp only [VR] at hx
            have hx := hx (by simp)
            subst hx; cases h
            simp [Op.equalIn, run_underlying hd]
          · simp only [VR] at hx
            obtain ⟨_, _, _, _, hx⟩ := hx (by simp)
            subst hx; cases h
            simp [Op.equalIn, run_underlying hd]
          · simp only [VR] at hx
            obtain ⟨_, _, _, _, _, _, _, hx⟩ := hx (by simp)
            subst hx; cases h
            simp [Op.equalIn, run_underlying hd]
          · simp only [VR] at hx
            obtain ⟨_, _, hx⟩ := hx (by simp)
            subst hx; cases h
            simp [Op.equalIn, run_underlying hd]
          · cases h
        · cases h
      · -- map
        split at h
        · simp only [VR] at hx hy
          have hx := hx (by simp); have hy := hy (by simp)
          subst hx hy; cases h
          simp [Op.equalIn, run_underlying hd]
        · simp only [VR] at hx hy
          obtain ⟨_, _, _, _, hx⟩ := hx (by simp); have hy := hy (by simp)
          subst hx hy; cases h
          simp [Op.equalIn, run_underlying hd]
        · cases h
      · -- func
        split at h
        · simp only [VR] at hx hy
          have hx := hx (by simp); have hy := hy (by simp)
          subst hx hy; cases h
          simp [Op.equalIn, run_underlying hd]
        · simp only [VR] at hx hy
          have hx := hx (by simp); obtain ⟨_, _, _, _, hy⟩ := hy (by simp)
          subst hx hy; cases h
          simp [Op.equalIn, run_underlying hd]
        · simp only [VR] at hx hy
          obtain ⟨_, _, _, _, hx⟩ := hx (by simp); have hy := hy (by simp)
          subst hx hy; cases h
          simp [Op.equalIn, run_underlying hd]
        · cases h
      · -- struct
        rename_i fs
        cases hEt : E.e t with
        | false => rw [hEt] at h; simp at h
        | true =>
          rw [hEt, cond_true] at h
          split at h
          · rename_i as bs
            simp only [VR] at hx hy
            obtain ⟨l, hl, rfl⟩ := hx (by simp); obtain ⟨l', hl', rfl⟩ := hy (by simp)
            have hfs : P.fieldsOf t = fs := by simp [Program.fieldsOf, hd]
            rw [run_equalIn_struct w m t _ _ (by rw [hfs]; exact hd) (hE.eq t hEt).1, hfs]
            have ih := eqT_sound hE H n m (by omega)
            clear hfs
            revert h
            generalize fs.toList = fl
            intro h
            induction fl with
            | nil =>
              simp only [eqT.eqFs] at h
              cases h
              simp [Op.eqFields]
            | cons f fl ihf =>
              simp only [eqT.eqFs] at h
              split at h
              · rename_i heq
                simp only [Op.eqFields]
                by_cases hb : f.name ≠ "_"
                · rw [if_pos hb]
                  obtain ⟨n1, n2⟩ := eqT_bad heq
                  obtain ⟨u1, p1, q1⟩ := partV_sound (l := l.toArray) (by simpa using hl) n1
                  obtain ⟨u2, p2, q2⟩ := partV_sound (l := l'.toArray) (by simpa using hl') n2
                  simp only [Sem.run_bind, p1, p2, Result.andThen_ok, ih _ _ _ _ _ _ heq (fun _ => q1) (fun _ => q2), Bool.not_true, Bool.false_eq_true, if_false]
                  exact ihf h
                · rw [if_neg hb]; exact ihf h
              · rename_i heq
                simp only [Op.eqFields]
                cases hbl : fieldBlank f with
                | true => rw [hbl] at h; simp at h
                | false =>
                  rw [hbl] at h
                  simp at h
                  subst h
                  have hb : f.name ≠ "_" := by simpa [fieldBlank] using hbl
                  rw [if_pos hb]
                  obtain ⟨n1, n2⟩ := eqT_bad heq
                  obtain ⟨u1, p1, q1⟩ := partV_sound (l := l.toArray) (by simpa using hl) n1
                  obtain ⟨u2, p2, q2⟩ := partV_sound (l := l'.toArray) (by simpa using hl') n2
                  simp [p1, p2, ih _ _ _ _ _ _ heq (fun _ => q1) (fun _ => q2)]
              · cases h
          · cases h
      · cases h
    · cases h

theorem optV_some {o : Option Bool} (h : optV o ≠ .bad) : ∃ b, o = some b ∧ optV o = .bool b := by cases o <;> simp [optV] at h ⊢
theorem notO_some {o : Option Bool} {b : Bool} (h : notO o = some b) : o = some (!b) := by cases o <;> simp [notO] at h ⊢; rw [← h]

section
variable {env : En} {re : Operand → Value} {d : Option Tmp} {ty : TypeId} {pos : String} {af : Array Edge} {gd : Option (Nat × Bool)}
theorem run_guarded {op : BinOp} {t u : TypeId} {x y : Operand} {v : Value} (hg : (eqGuard op t x y (re x) (re y)).run P w = .ok () w) (hb : (binOp op t (re x) (re y)).run P w = .ok v w) :
    (execOp re ⟨d, .binOp op t x y u, ty, pos, af, gd⟩).run P w = .ok (.value v) w := by
  simp only [execOp]
  apply run_v
  simp only [Sem.run_bind, hg, Result.andThen_ok, hb]
theorem eqGuard_plain {op : BinOp} {t : TypeId} {x y : Operand} {a b : Value} (h1 : a = .nilIface → b ≠ .nilIface) (h2 : ∀ xs, a ≠ .agg xs) : (eqGuard op t x y a b).run P w = .ok () w := by
  unfold eqGuard
  cases op <;> simp <;> (split <;> first | rfl | (exact absurd rfl (h2 _)) | (exact absurd rfl (h1 rfl)))
theorem eqGuard_const {op : BinOp} {t : TypeId} {x y : Operand} (h : (isConst x || isConst y) = true) : (eqGuard op t x y .nilIface .nilIface).run P w = .ok () w := by
  cases x <;> cases y <;> simp [isConst] at h <;> cases op <;> simp [eqGuard]
theorem binop_eql {t : TypeId} {a b : Value} {r : Bool} {op : BinOp} (hop : op = .eql ∨ op = .neq) (hi : ∀ k n k' m, a = .int k n → b ≠ .int k' m) (hf : ∀ k n, a ≠ .float k n) (hc : ∀ k n m, a ≠ .complex k n m) (hs : ∀ x y, a = .string x → b ≠ .string y)
    (h : (Op.equal t a b).run P w = .ok r w) : (binOp op t a b).run P w = .ok (.bool (if op = .eql then r else !r)) w := by
  rcases hop with rfl | rfl
  · unfold binOp
    split <;> first
      | (simp [h]; done)
      | (rename_i h1 _ _; exact absurd rfl (by simpa using h1))
      | (exact absurd rfl (hi _ _ _ _ rfl))
      | (exact absurd rfl (hf _ _))
      | (exact absurd rfl (hc _ _ _))
      | (exact absurd rfl (hs _ _ rfl))
      | (simp_all; done)
  · unfold binOp
    split <;> first
      | (simp [h]; done)
      | (exact absurd rfl (hi _ _ _ _ rfl))
      | (exact absurd rfl (hf _ _))
      | (exact absurd rfl (hc _ _ _))
      | (exact absurd rfl (hs _ _ rfl))
      | (simp_all; done)

theorem ifcOf {ρ : Rho} {x : SV} {v : Value} (hx : x ≠ .bad) (hj : x ≠ .junk) (h : VR ρ x v) : (v = .nilIface → x = .nili) ∧ ((∃ l, v = .agg l) → ∃ cs, x = .agg cs) ∧ (∀ k n, v ≠ .complex k n n) := by
  cases x <;> simp only [VR] at h <;> try (exact absurd rfl hx)
  all_goals first
    | (exact absurd rfl hj)
    | (subst h; refine ⟨?_, ?_, ?_⟩ <;> simp; done)
    | (obtain ⟨_, h, _⟩ := h; subst h; refine ⟨?_, ?_, ?_⟩ <;> simp; done)
    | (obtain ⟨_, _, h⟩ := h; subst h; refine ⟨?_, ?_, ?_⟩ <;> simp; done)
    | (obtain ⟨_, _, _, _, h⟩ := h; subst h; refine ⟨?_, ?_, ?_⟩ <;> simp; done)
    | (obtain ⟨_, _, _, _, _, _, _, h⟩ := h; subst h; refine ⟨?_, ?_, ?_⟩ <;> simp; done)
    | (subst h; rename_i i; rcases Opq.shape i with ⟨_, hs⟩ | ⟨_, _, _, hs⟩ | ⟨_, _, hs⟩ <;> rw [hs] <;> refine ⟨?_, ?_, ?_⟩ <;> simp)
theorem eqT_junk {E : EE} {h : Hp} {n : Nat} {t : TypeId} {x y : SV} {r : Bool} (hq : eqT E P h n t x y = some r) : x ≠ .junk ∧ y ≠ .junk := by
  cases n with
  | zero => simp [eqT] at hq
  | succ n =>
    simp only [eqT] at hq
    constructor
    · intro e
      subst e
      split at hq
      · split at hq
        all_goals first
          | (simp at hq; done)
          | (cases y <;> simp at hq; done)
          | (cases hE : E.e t <;> rw [hE] at hq <;> cases y <;> simp at hq; done)
      · cases hq
    · intro e
      subst e
      split at hq
      · split at hq
        all_goals first
          | (simp at hq; done)
          | (cases x <;> simp at hq; done)
          | (cases hE : E.e t <;> rw [hE] at hq <;> cases x <;> simp at hq; done)
      · cases hq
/-- what a value that is compared by its type is not -/
theorem eqT_agg {E : EE} (hE : EOk P E) {h : Hp} {n : Nat} {t : TypeId} {cs : List SV} {y : SV} {r : Bool} (hq : eqT E P h n t (.agg cs) y = some r) : P.eqGuardType P.depth t = false ∧ ∃ ds, y = .agg ds := by
  cases n with
  | zero => simp [eqT] at hq
  | succ n =>
    simp only [eqT] at hq
    split at hq
    · split at hq
      all_goals first
        | (simp at hq; done)
        | (cases y <;> simp at hq; done)
        | skip
      rename_i fs _
      cases hEt : E.e t with
      | false => rw [hEt] at hq; simp at hq
      | true =>
        refine ⟨(hE.eq t hEt).2, ?_⟩
        rw [hEt] at hq
        cases y <;> simp at hq
        exact ⟨_, rfl⟩
    · cases hq
def plainV : SV → Bool
  | .bad => false
  | .junk => false
  | .flt .. => false
  | .capx .. => false
  | .tup _ => false
  | .opq _ => false
  | _ => true
theorem eqT_plain {E : EE} {h : Hp} {n : Nat} {t : TypeId} {x y : SV} {r : Bool} (hq : eqT E P h n t x y = some r) : plainV x = true := by
  cases n with
  | zero => simp [eqT] at hq
  | succ n =>
    simp only [eqT] at hq
    split at hq
    · split at hq
      all_goals first
        | (cases x <;> first | rfl | (cases y <;> simp at hq; done))
        | (cases hE : E.e t <;> rw [hE] at hq <;> cases x <;> first | rfl | (cases y <;> simp at hq; done))
    · cases hq
theorem plain_not {x : SV} {v : Value} (hp : plainV x = true) (hi : ∀ k n, x ≠ .int k n) (hs : ∀ l n, x ≠ .str l n) (h : VR ρ x v) :
    (∀ k n, v ≠ .int k n) ∧ (∀ k n, v ≠ .float k n) ∧ (∀ k n m, v ≠ .complex k n m) ∧ (∀ b, v ≠ .string b) := by
  cases x <;> simp [plainV] at hp <;> simp only [VR] at h
  all_goals first
    | (exact absurd rfl (hi _ _))
    | (exact absurd rfl (hs _ _))
    | (subst h; simp; done)
    | (obtain ⟨_, h, _⟩ := h; subst h; simp; done)
    | (obtain ⟨_, _, h⟩ := h; subst h; simp; done)
    | (obtain ⟨_, _, _, _, h⟩ := h; subst h; simp; done)
    | (obtain ⟨_, _, _, _, _, _, _, h⟩ := h; subst h; simp; done)
theorem eqOp_some {E : EE} {h : Hp} {t : TypeId} {op : BinOp} {x y : SV} (hq : eqOp E P h t op x y ≠ .bad) : (op = .eql ∨ op = .neq) ∧ ∃ r, eqT E P h 3 t x y = some r ∧ eqOp E P h t op x y = .bool (if op = .eql then r else !r) := by
  cases op <;> simp only [eqOp] at hq ⊢
  case eql => obtain ⟨b, h1, h2⟩ := optV_some hq; exact ⟨by simp, b, h1, by rw [h2]; simp⟩
  case neq => obtain ⟨b, h1, h2⟩ := optV_some hq; exact ⟨by simp, !b, notO_some h1, by rw [h2]; simp⟩
  all_goals exact absurd rfl hq
theorem binV_sound {E : EE} (hE : EOk P E) (H : Rel ρ N s w) {t u : TypeId} {x y : Operand} {op : BinOp} (hx : OR ρ env re x) (hy : OR ρ env re y) (h : binV E P s.h t x y op (evO x env) (evO y env) ≠ .bad) :
    ∃ v, (execOp re ⟨d, .binOp op t x y u, ty, pos, af, gd⟩).run P w = .ok (.value v) w ∧ VR ρ (binV E P s.h t x y op (evO x env) (evO y env)) v := by
  have gen : ∀ vx vy, evO x env = vx → evO y env = vy → (∀ k n, vx ≠ .int k n) → (∀ l n, vx ≠ .str l n) → binV E P s.h t x y op vx vy = cond (nilGuard x y vx vy) (eqOp E P s.h t op vx vy) .bad →
      ∃ v, (execOp re ⟨d, .binOp op t x y u, ty, pos, af, gd⟩).run P w = .ok (.value v) w ∧ VR ρ (binV E P s.h t x y op (evO x env) (evO y env)) v := by
    intro vx vy hvx hvy hni hns he
    rw [hvx, hvy] at h ⊢
    rw [he] at h ⊢
    cases hg : nilGuard x y vx vy with
    | false => rw [hg] at h; simp at h
    | true =>
      rw [hg, cond_true] at h
      rw [cond_true]
      obtain ⟨hop, r, h1, h2⟩ := eqOp_some h
      obtain ⟨n1, n2⟩ := eqT_bad h1
      obtain ⟨j1, j2⟩ := eqT_junk h1
      have rx := hx (by rw [hvx]; exact n1)
      have ry := hy (by rw [hvy]; exact n2)
      rw [hvx] at rx
      rw [hvy] at ry
      have heq : (Op.equal t (re x) (re y)).run P w = .ok r w := eqT_sound hE H 3 10000 (by omega) t vx vy (re x) (re y) r h1 (fun _ => rx) (fun _ => ry)
      refine ⟨.bool (if op = .eql then r else !r), run_guarded ?_ (binop_eql hop ?_ ?_ ?_ ?_ heq), by rw [h2]; simp [VR]⟩
      · by_cases hagg : ∃ l, re x = .agg l
        · obtain ⟨cs, rfl⟩ := (ifcOf n1 j1 rx).2.1 hagg
          obtain ⟨hgt, ds, rfl⟩ := eqT_agg hE h1
          simp only [VR] at rx ry
          obtain ⟨l, _, hl⟩ := rx
          obtain ⟨l', _, hl'⟩ := ry
          rw [hl, hl']
          exact run_eqGuard_agg w op t x y _ _ hgt
        · by_cases hnn : re x = .nilIface ∧ re y = .nilIface
          · have e1 := (ifcOf n1 j1 rx).1 hnn.1
            have e2 := (ifcOf n2 j2 ry).1 hnn.2
            rw [e1, e2] at hg
            rw [hnn.1, hnn.2]
            exact eqGuard_const hg
          · exact eqGuard_plain (fun h1 h2 => hnn ⟨h1, h2⟩) (fun xs e => hagg ⟨xs, e⟩)
      · intro k n k' m hrx
        exact absurd hrx ((plain_not (eqT_plain h1) hni hns rx).1 k n)
      · exact (plain_not (eqT_plain h1) hni hns rx).2.1
      · exact (plain_not (eqT_plain h1) hni hns rx).2.2.1
      · intro a b hrx
        exact absurd hrx ((plain_not (eqT_plain h1) hni hns rx).2.2.2 a)
  have opqc : ∀ vx vy, evO x env = vx → evO y env = vy → vx ≠ .bad → vy ≠ .bad → E.o op vx vy ≠ .bad → ((∃ i, vx = .opq i) ∨ (∃ k n, vx = .int k n) ∨ ∃ l n, vx = .str l n) →
      ∃ v, (execOp re ⟨d, .binOp op t x y u, ty, pos, af, gd⟩).run P w = .ok (.value v) w ∧ VR ρ (E.o op vx vy) v := by
    intro vx vy hvx hvy nx ny hne hpl
    have rx := hx (by rw [hvx]; exact nx)
    have ry := hy (by rw [hvy]; exact ny)
    rw [hvx] at rx
    rw [hvy] at ry
    obtain ⟨r, h1, h2⟩ := hE.op op t vx vy (re x) (re y) w ρ hne rx ry
    have hk : re x ≠ .nilIface ∧ ∀ l, re x ≠ .agg l := by
      rcases hpl with ⟨i, rfl⟩ | ⟨k, n, rfl⟩ | ⟨l, n, rfl⟩
      · simp only [VR] at rx
        rw [rx]
        rcases Opq.shape i with ⟨_, hs⟩ | ⟨_, _, _, hs⟩ | ⟨_, _, hs⟩ <;> rw [hs] <;> simp
      · simp only [VR] at rx; rw [rx]; simp
      · simp only [VR] at rx; obtain ⟨_, rx, _⟩ := rx; rw [rx]; simp
    exact ⟨r, run_guarded (eqGuard_plain (fun h => absurd h hk.1) hk.2) h1, h2⟩
  cases hvx : evO x env with
  | int k a =>
    rw [hvx] at h
    cases hvy : evO y env with
    | int k' b =>
      rw [hvy] at h
      simp only [binV] at h ⊢
      have rx := hx (by rw [hvx]; simp)
      have ry := hy (by rw [hvy]; simp)
      rw [hvx] at rx
      rw [hvy] at ry
      simp only [VR] at rx ry
      obtain ⟨v, h1, h2⟩ := intBin_sound (P := P) (ρ := ρ) (w := w) (t := t) h
      exact ⟨v, run_guarded (eqGuard_plain (by rw [rx]; simp) (by rw [rx]; simp)) (by rw [rx, ry]; exact h1), h2⟩
    | opq j => rw [hvy] at h; exact opqc _ _ hvx hvy (by simp) (by simp) h (.inr (.inl ⟨_, _, rfl⟩))
    | _ => rw [hvy] at h; exact absurd rfl h
  | str la na =>
    rw [hvx] at h
    cases hvy : evO y env with
    | str lb nb =>
      rw [hvy] at h
      simp only [binV] at h ⊢
      have rx := hx (by rw [hvx]; simp)
      have ry := hy (by rw [hvy]; simp)
      rw [hvx] at rx
      rw [hvy] at ry
      simp only [VR] at rx ry
      obtain ⟨a, hra, ha⟩ := rx
      obtain ⟨b, hrb, hb⟩ := ry
      obtain ⟨v, h1, h2⟩ := strOp_sound (P := P) (ρ := ρ) (w := w) (t := t) ha hb h
      exact ⟨v, run_guarded (eqGuard_plain (by rw [hra]; simp) (by rw [hra]; simp)) (by rw [hra, hrb]; exact h1), h2⟩
    | opq j => rw [hvy] at h; exact opqc _ _ hvx hvy (by simp) (by simp) h (.inr (.inr ⟨_, _, rfl⟩))
    | _ => rw [hvy] at h; exact absurd rfl h
  | opq i =>
    rw [hvx] at h
    cases hvy : evO y env with
    | bad => rw [hvy] at h; exact absurd rfl h
    | _ => rw [hvy] at h; exact opqc _ _ hvx hvy (by simp) (by simp) h (.inl ⟨_, rfl⟩)
  | _ => rw [← hvx]; exact gen _ _ hvx rfl (by simp) (by simp) rfl

theorem Rel.upd (H : Rel ρ N s w) {b r base e : Nat} (hb : ρ b = some (r, base, e)) (hw : writable (s.h.get b) = true) {blk : SBlk} (hB : BR ρ base e blk w.heap[r]?) (hs : w.heap[r]?.isSome = true) : Rel ρ N (s.put b blk) w := by
  obtain ⟨o, ho⟩ := Option.isSome_iff_exists.1 hs
  rw [ho] at hB
  have := H.put hb hw hB
  rwa [putB_same w r o ho] at this
theorem RV.upd (H : Rel ρ N s w) {b r base e : Nat} (hb : ρ b = some (r, base, e)) (hw : writable (s.h.get b) = true) {blk : SBlk} (hB : BR ρ base e blk w.heap[r]?) (hs : w.heap[r]?.isSome = true) {res : Result Next} {x : SV} {v : Value}
    (h : res = .ok (.value v) w) (hv : VR ρ x v) : RV ρ N s w False res x (s.put b blk) :=
  ⟨ρ, v, w, h, hv, H.upd hb hw hB hs, Ext.put H hb _, Below.refl N w, fun h => h.elim⟩
theorem gtr_run {t : TypeId} {k : IntKind} {a b : Int} : (binOp .gtr t (.int k a) (.int k b)).run P w = .ok (.bool (decide (a > b))) w := by
  simp [binOp, Op.intCmp]
theorem forkGt_sound (H : Rel ρ N s w) {a : Int} {b off len sz : Nat} {v : Value} {res : Result Next} (hv : VR ρ (.capx b off len sz) v)
    (hres : ∀ c : Int, v = .int .i64 c → res = .ok (.value (.bool (decide (a > c)))) w) : RR P ρ N s w k0 res (forkGt a b off len sz s) := by
  simp only [VR] at hv
  obtain ⟨r, base, e, cap, hb, hlc, hcap, rfl⟩ := hv
  have hr := hres _ rfl
  unfold forkGt
  cases a with
  | negSucc n =>
    refine RV.pure H hr ?_
    simp only [VR]
    congr 1
  | ofNat n =>
    simp only
    cases hnl : Nat.ble n len with
    | true =>
      rw [cond_true]
      have := Nat.le_of_ble_eq_true hnl
      refine RV.pure H hr ?_
      simp only [VR]
      congr 1
      rw [decide_eq_false_iff_not]
      show ¬ ((n : Int) > (cap : Int))
      omega
    | false =>
      rw [cond_false]
      have hL := H.live _ _ _ _ hb
      cases hg : s.h.get b <;> rw [hg] at hL <;> try exact trivial
      rename_i tb cs ub fz st
      simp only
      cases hsm : (Nat.ble n 1048576 && Nat.ble 1 sz) with
      | false => exact trivial
      | true =>
        rw [cond_true]
        rw [Bool.and_eq_true] at hsm
        have hsz := Nat.le_of_ble_eq_true hsm.2
        obtain ⟨rc, fzr, ho, hsize, hlen, hub, hcr, hfr, hst⟩ := hL
        have hw : writable (s.h.get b) = true := by rw [hg]; rfl
        by_cases hgt : n > cap
        · left
          refine RV.upd H hb hw ?_ (by rw [ho]; rfl) hr ?_
          · refine ⟨rc, fzr, ho, hsize, hlen, fun hu => ?_, hcr, hfr, hst⟩
            rw [minN_eq] at hu ⊢
            have h1 : e ≤ base + (off + (n - 1) * sz) := by
              have : cap * sz ≤ (n - 1) * sz := Nat.mul_le_mul_right sz (by omega)
              omega
            have h2 : Nat.add off (Nat.mul (Nat.pred n) sz) = off + (n - 1) * sz := rfl
            rw [h2] at hu ⊢
            by_cases hle : ub ≤ off + (n - 1) * sz
            · rw [Nat.min_eq_left hle] at hu ⊢; exact hub hu
            · rw [Nat.min_eq_right (by omega)]; exact h1
          · simp only [VR]
            congr 1
            rw [decide_eq_true_iff]
            show (n : Int) > (cap : Int)
            omega
        · right
          refine RV.upd H hb hw ?_ (by rw [ho]; rfl) hr ?_
          · have h2 : Nat.sub (Nat.add off (Nat.mul n sz)) cs.length = off + n * sz - cs.length := rfl
            have h3 : n * sz ≤ cap * sz := Nat.mul_le_mul_right sz (by omega)
            refine ⟨rc, fzr, ho, hsize, ?_, hub, ?_, hfr, hst⟩
            · simp only [List.length_append, List.length_replicate, h2]; omega
            · intro i x hx
              by_cases hi : i < cs.length
              · rw [List.getElem?_append_left hi] at hx; exact hcr i x hx
              · rw [List.getElem?_append_right (by omega), List.getElem?_replicate, h2] at hx
                split at hx
                · rename_i hlt
                  cases hx
                  have : base + i < rc.size := by omega
                  exact ⟨rc[base + i], Array.getElem?_eq_getElem this, by simp [VR]⟩
                · cases hx
          · simp only [VR]
            congr 1
            rw [decide_eq_false_iff_not]
            show ¬ ((n : Int) > (cap : Int))
            omega
theorem bin_sound {E : EE} (hE : EOk P E) (H : Rel ρ N s w) {t u : TypeId} {x y : Operand} {op : BinOp} (hx : OR ρ env re x) (hy : OR ρ env re y) :
    RR P ρ N s w k0 ((execOp re ⟨d, .binOp op t x y u, ty, pos, af, gd⟩).run P w) (exBin E op t x y u P env s) := by
  unfold exBin
  split
  · rename_i b off len sz hvy
    split
    · rename_i a hvx
      have ry := hy (by rw [hvy]; simp)
      have rx := hx (by rw [hvx]; simp)
      rw [hvy] at ry
      rw [hvx] at rx
      simp only [VR] at rx
      refine forkGt_sound H ry fun c hc => run_guarded (eqGuard_plain (by rw [rx]; simp) (by rw [rx]; simp)) ?_
      rw [rx, hc]
      exact gtr_run
    · exact trivial
  · exact RR.rv H fun h => binV_sound hE H hx hy h
end
end Go.Sh
