/- Part of a proof that a closed law answers true: the evaluator of the first text is sound; this text is one step of it. No condition. -/
import Derived.Test.YtbnplpeodjknaaaGreatDoorShG
set_option linter.unusedSectionVars false
set_option linter.unusedSimpArgs false
set_option linter.unusedVariables false
namespace Go.Sh
variable [Opq]
open Go.RowKit (Below)
variable {I : Rho → World → Prop}
variable {P : Program} {ρ : Rho} {N : Bound I} {s : St} {w : World} {k0 : Prop}
variable {env : En} {re : Operand → Value} {d : Option Tmp} {ty : TypeId} {pos : String} {af : Array Edge} {gd : Option (Nat × Bool)}

/-! ## type assertions -/
theorem zero_run {t : TypeId} {z : SV} (h : zeroS P t = z) (hz : z ≠ .bad) (ρ : Rho) : ∃ v, (∀ w : World, (zeroValue t).run P w = .ok v w) ∧ VR ρ z v := by
  subst h
  obtain ⟨v, h1, h2⟩ := zeroS_sound hz
  exact ⟨v, h1, h2 ρ⟩
theorem tup2 {ρ : Rho} {x y : SV} {u v : Value} (hx : VR ρ x u) (hy : VR ρ y v) : VR ρ (.tup [x, y]) (.tuple #[u, v]) := by
  simp only [VR]; exact ⟨[u, v], VRs.cons hx (VRs.cons hy VRs.nil), rfl⟩
theorem vrBool {ρ : Rho} (b : Bool) : VR ρ (.bool b) (.bool b) := by simp [VR]
theorem vrInt {ρ : Rho} (k : IntKind) (n : Int) : VR ρ (.int k n) (.int k n) := by simp [VR]
theorem assert_sound (H : Rel ρ N s w) {x : Operand} {t u : TypeId} {ok : Bool} (hx : OR ρ env re x) :
    RR P ρ N s w k0 ((execOp re ⟨d, .typeAssert x t u ok, ty, pos, af, gd⟩).run P w) (exAssert x t u ok P env s) := by
  unfold exAssert
  split
  · exact trivial
  · rename_i dd hni hu
    have hni' : ∀ ms, dd ≠ .interface ms := fun ms e => hni ms (by rw [← e])
    split
    · rename_i t' v hv
      have h := hx (by rw [hv]; simp)
      rw [hv] at h
      simp only [VR] at h
      obtain ⟨y, hy, hre⟩ := h
      cases hq : Nat.beq t' u with
      | true =>
        have := Nat.eq_of_beq_eq_true hq
        subst this
        rw [cond_true]
        cases ok with
        | true =>
          refine RV.pure H (v := .tuple #[y, .bool true]) ?_ (tup2 hy (vrBool true))
          simp only [execOp, hre]
          apply run_v
          simp only [Instr.typeAssert, Sem.run_bind, run_underlying hu, Result.andThen_ok]
          cases dd <;> first | (simp; done) | (exact absurd rfl (hni' _))
        | false =>
          refine RV.pure H (v := y) ?_ hy
          simp only [execOp, hre]
          apply run_v
          simp only [Instr.typeAssert, Sem.run_bind, run_underlying hu, Result.andThen_ok]
          cases dd <;> first | (simp; done) | (exact absurd rfl (hni' _))
      | false =>
        have hne : t' ≠ u := fun e => by subst e; simp at hq
        rw [cond_false]
        cases ok with
        | true =>
          rw [cond_true]
          split
          · exact trivial
          · rename_i z hz
            obtain ⟨zv, h1, h2⟩ := zero_run (P := P) (t := u) rfl (fun e => hz e) ρ
            refine RV.pure H (v := .tuple #[zv, .bool false]) ?_ (tup2 h2 (vrBool false))
            simp only [execOp, hre]
            apply run_v
            simp only [Instr.typeAssert, Sem.run_bind, run_underlying hu, Result.andThen_ok]
            cases dd <;> first | (simp [hne, h1]; done) | (exact absurd rfl (hni' _))
        | false => exact trivial
    · rename_i hv
      have h := hx (by rw [hv]; simp)
      rw [hv] at h
      simp only [VR] at h
      cases ok with
      | true =>
        rw [cond_true]
        split
        · exact trivial
        · rename_i z hz
          obtain ⟨zv, h1, h2⟩ := zero_run (P := P) (t := u) rfl (fun e => hz e) ρ
          refine RV.pure H (v := .tuple #[zv, .bool false]) ?_ (tup2 h2 (vrBool false))
          simp only [execOp, h]
          apply run_v
          simp only [Instr.typeAssert, Sem.run_bind, run_underlying hu, Result.andThen_ok]
          cases dd <;> first | (simp [h1]; done) | (exact absurd rfl (hni' _))
      | false => exact trivial
    · exact trivial
  · exact trivial

/-! ## indexes -/
theorem ofNat_lt {i len : Nat} (h : Nat.ble (Nat.succ i) len = true) : i < len := Nat.le_of_ble_eq_true h
theorem ixAt_sound (H : Rel ρ N s w) {e : TypeId} {b off len : Nat} {i : Option Nat} {r base e' : Nat} (hb : ρ b = some (r, base, e')) {res : Result Next}
    (hres : ∀ n sz, i = some n → size? P e = some sz → n < len → res = .ok (.value (.pointer (some ⟨r, base + off + n * sz, none⟩))) w) : RR P ρ N s w k0 res (ixAt P e s b off len i) := by
  unfold ixAt
  split
  · rename_i sz n hsz
    cases hl : Nat.ble (Nat.succ n) len with
    | false => exact trivial
    | true =>
      refine RV.pure H (hres n sz rfl hsz (ofNat_lt hl)) ?_
      simp only [VR]
      exact ⟨r, base, e', hb, by rw [Nat.add_assoc]; rfl⟩
  · exact trivial
theorem atS_some {x : SV} {b off len : Nat} (h : atS x = some (b, off, len)) {v : Value} (hv : VR ρ x v) : ∃ r base e cap, ρ b = some (r, base, e) ∧ v = .slice (some ⟨r, base + off, none⟩) len cap := by
  unfold atS at h
  split at h
  · cases h; simp only [VR] at hv; obtain ⟨r, base, e, hb, rfl⟩ := hv; exact ⟨r, base, e, _, hb, rfl⟩
  · cases h; simp only [VR] at hv; obtain ⟨r, base, e, cap, hb, _, _, rfl⟩ := hv; exact ⟨r, base, e, cap, hb, rfl⟩
  · cases h
theorem atS_ne {x : SV} {q : Nat × Nat × Nat} (h : atS x = some q) : x ≠ .bad := fun e => by subst e; simp [atS] at h
theorem indexAddr_sound (H : Rel ρ N s w) {t : TypeId} {x i : Operand} (hx : OR ρ env re x) (hi : OR ρ env re i) :
    RR P ρ N s w k0 ((execOp re ⟨d, .indexAddr t x i, ty, pos, af, gd⟩).run P w) (exIndexAddr t x i P env s) := by
  unfold exIndexAddr
  split
  · rename_i n e hu
    split
    · rename_i b off hv
      have h := hx (by rw [hv]; simp)
      rw [hv] at h
      simp only [VR] at h
      obtain ⟨r, base, e', hb, hre⟩ := h
      refine ixAt_sound H hb fun m sz hm hsz hlt => ?_
      obtain ⟨k, hk⟩ := hi.asN hm
      simp only [execOp, hre, hk]
      apply run_v
      have h1 : (0 : Int) ≤ (m : Int) ∧ (m : Int) < (n : Int) := by omega
      simp only [Instr.indexAt, asIntOf, Sem.run_bind, Sem.run_pure, Result.andThen_ok, run_underlying hu, Instr.sureAddr]
      rw [if_pos h1]
      simp [run_sizeOf hsz, add_addr]
    · exact trivial
  · rename_i e hu
    split
    · rename_i b off len hat
      obtain ⟨r, base, e', cap, hb, hre⟩ := atS_some hat (hx (atS_ne hat))
      refine ixAt_sound H hb fun m sz hm hsz hlt => ?_
      obtain ⟨k, hk⟩ := hi.asN hm
      simp only [execOp, hre, hk]
      apply run_v
      have h1 : (0 : Int) ≤ (m : Int) ∧ (m : Int) < (len : Int) := by omega
      simp only [Instr.indexAt, asIntOf, Sem.run_bind, Sem.run_pure, Result.andThen_ok, run_underlying hu]
      rw [if_pos h1]
      simp [run_sizeOf hsz, add_addr]
    · exact trivial
  · exact trivial
theorem strAt_eq {l : List UInt8} {i : Nat} {c : UInt8} (h : l[i]? = some c) : strAt (natOf l) i = c.toNat := by
  unfold strAt
  have hlt : i < l.length := (List.getElem?_eq_some_iff.1 h).1
  have h1 : Nat.div (natOf l) (Nat.pow 2 (Nat.mul 8 i)) = natOf (l.drop i) := (natOf_drop l i (by omega)).symm
  rw [h1, List.drop_eq_getElem_cons hlt]
  have : l[i] = c := by rw [List.getElem?_eq_getElem hlt] at h; simpa using h
  rw [this]
  exact natOf_mod c _
theorem getElem_data {a : ByteArray} {i : Nat} {c : UInt8} (h : a.data.toList[i]? = some c) : a[i]? = some c := by
  have hlt : i < a.data.toList.length := (List.getElem?_eq_some_iff.1 h).1
  have hlt' : i < a.size := by simpa using hlt
  rw [getElem?_pos a i hlt']
  rw [List.getElem?_eq_getElem hlt] at h
  simpa [ByteArray.getElem_eq_getElem_data] using h
theorem index_sound (H : Rel ρ N s w) {t : TypeId} {x i : Operand} (hx : OR ρ env re x) (hi : OR ρ env re i) :
    RR P ρ N s w k0 ((execOp re ⟨d, .index t x i, ty, pos, af, gd⟩).run P w) (exIndex t x i P env s) := by
  unfold exIndex
  split
  · rename_i m hu hm
    obtain ⟨k, hk⟩ := hi.asN hm
    split
    · rename_i len n hv
      have h := hx (by rw [hv]; simp)
      rw [hv] at h
      simp only [VR] at h
      obtain ⟨a, hre, hsr⟩ := h
      cases hl : Nat.ble (Nat.succ m) len with
      | false => exact trivial
      | true =>
        have hlt := ofNat_lt hl
        have hlen := SR.len hsr
        obtain ⟨c, hc⟩ : ∃ c, a.data.toList[m]? = some c := ⟨_, List.getElem?_eq_getElem (by omega)⟩
        refine RV.pure H (v := .int .u8 c.toNat) ?_ ?_
        · simp only [execOp, hre, hk]
          apply run_v
          simp [Instr.index, asIntOf, run_underlying hu, getElem_data hc]
        · simp only [VR]
          rw [← hsr.2, strAt_eq hc]
          rfl
    · exact trivial
  · rename_i len e m hu hm
    obtain ⟨k, hk⟩ := hi.asN hm
    split
    · rename_i cs n hv hsz
      have h := hx (by rw [hv]; simp)
      rw [hv] at h
      simp only [VR] at h
      obtain ⟨l, hl, hre⟩ := h
      cases hlt : Nat.ble (Nat.succ m) len with
      | false => exact trivial
      | true =>
        rw [cond_true]
        have hlt' := ofNat_lt hlt
        refine RR.rv H fun hb => ?_
        obtain ⟨v, h1, h2⟩ := partV_sound (l := l.toArray) (by simpa using hl) hb
        refine ⟨v, ?_, h2⟩
        simp only [execOp, hre, hk]
        apply run_v
        have h3 : (0 : Int) ≤ (m : Int) ∧ (m : Int) < (len : Int) := by omega
        simp only [Instr.index, asIntOf, Sem.run_bind, Sem.run_pure, Result.andThen_ok, run_underlying hu]
        rw [if_pos h3]
        simp only [Sem.run_bind, run_sizeOf hsz, Result.andThen_ok]
        exact h1 w
    · exact trivial
  · exact trivial

/-! ## slices -/
def OB (env : En) (re : Operand → Value) (ρ : Rho) (o : Option Operand) : Prop := ∀ x, o = some x → OR ρ env re x
/-- a bound: not given, or a number -/
def Bd (v : Option Value) (dflt n : Nat) : Prop := (v = none ∧ n = dflt) ∨ ∃ k, v = some (.int k n)
theorem optN_bd {o : Option Operand} {dflt n : Nat} (ho : OB env re ρ o) (h : optN dflt env o = some n) : Bd (o.map re) dflt n := by
  cases o with
  | none => simp [optN] at h; exact .inl ⟨rfl, h.symm⟩
  | some x =>
    simp only [optN] at h
    obtain ⟨k, hk⟩ := (ho x rfl).asN h
    exact .inr ⟨k, by simp [hk]⟩
theorem run_sliceBound {k : IntKind} {i y : Nat} (h : i ≤ y) (code : BoundsCode) : (Instr.sliceBound (.int k i) y code).run P w = .ok i w := by
  have : (0 : Int) ≤ (i : Int) ∧ (i : Int) ≤ (y : Int) := by omega
  simp only [Instr.sliceBound, asIntOf, Sem.run_bind, Sem.run_pure, Result.andThen_ok]
  rw [if_pos this]
  rfl
theorem run_bounds {isSlice : Bool} {len cap : Nat} {lo hi mx : Option Value} {l h m : Nat} (hl : Bd lo 0 l) (hh : Bd hi len h) (hm : Bd mx cap m) (hmx : mx ≠ none → hi ≠ none) (h1 : l ≤ h) (h2 : h ≤ m) (h3 : m ≤ cap) :
    (Instr.sliceBounds isSlice len cap lo hi mx).run P w = .ok (l, h, m) w := by
  rcases hl with ⟨rfl, rfl⟩ | ⟨kl, rfl⟩ <;> rcases hh with ⟨rfl, rfl⟩ | ⟨kh, rfl⟩ <;> rcases hm with ⟨rfl, rfl⟩ | ⟨km, rfl⟩
  all_goals first
    | (simp [Instr.sliceBounds, run_sliceBound h1, run_sliceBound h2, run_sliceBound h3]; done)
    | (simp [Instr.sliceBounds]; done)
    | (exact absurd rfl (hmx (by simp)))

theorem strCut_sound {a : ByteArray} {len n l h : Nat} (ha : SR a len n) (h1 : l ≤ h) (h2 : h ≤ len) : SR (a.extract l h) (Nat.sub h l) (Nat.mod (Nat.div n (Nat.pow 2 (Nat.mul 8 l))) (Nat.pow 2 (Nat.mul 8 (Nat.sub h l)))) := by
  have hlen := ha.len
  constructor
  · rw [ByteArray.size_extract, ha.1]
    show min h len - l = h - l
    omega
  · have hd : (a.extract l h).data.toList = (a.data.toList.drop l).take (h - l) := by
      simp [ByteArray.data_extract]
    rw [hd, natOf_take _ _ (by simp at hlen ⊢; omega), natOf_drop _ _ (by omega), ha.2]
    rfl
theorem sliceStr_sound {t : TypeId} {x : Operand} {lo hi : Option Operand} (hu : P.underlying t = some .string) {len n : Nat} (hx : OR ρ env re x) (hv : evO x env = .str len n) (hlo : OB env re ρ lo) (hhi : OB env re ρ hi)
    (h : sliceStr len n (optN 0 env lo) (optN len env hi) ≠ .bad) : ∃ v, (Instr.sliceAt t (re x) (lo.map re) (hi.map re) none).run P w = .ok v w ∧ VR ρ (sliceStr len n (optN 0 env lo) (optN len env hi)) v := by
  have hx' := hx (by rw [hv]; simp)
  rw [hv] at hx'
  simp only [VR] at hx'
  obtain ⟨a, hre, hsr⟩ := hx'
  unfold sliceStr at h ⊢
  split at h
  · rename_i l hh hl hhh
    have b1 := optN_bd hlo hl
    have b2 := optN_bd hhi hhh
    cases hc : (leN l hh && leN hh len) with
    | false => rw [hc] at h; simp at h
    | true =>
      simp only [cond_true]
      simp only [leN, Bool.and_eq_true] at hc
      have c1 := Nat.le_of_ble_eq_true hc.1
      have c2 := Nat.le_of_ble_eq_true hc.2
      refine ⟨.string (a.extract l hh), ?_, ?_⟩
      · have hb2 : Bd (hi.map re) a.size hh := by rw [hsr.1]; exact b2
        have hrun := run_bounds (P := P) (w := w) (isSlice := false) (len := a.size) (cap := a.size) b1 hb2 (mx := none) (m := a.size) (.inl ⟨rfl, rfl⟩) (by simp) c1 (by rw [hsr.1]; exact c2) (Nat.le_refl _)
        simp [Instr.sliceAt, run_underlying hu, hre, Instr.slice, hrun]
      · simp only [strCut, VR]
        exact ⟨_, rfl, strCut_sound hsr c1 c2⟩
  · exact absurd rfl h
theorem slcAt_sound {b off sz l h m r base e : Nat} (hb : ρ b = some (r, base, e)) (h1 : l ≤ h) (_h2 : h ≤ m) :
    VR ρ (slcAt b off sz l h m) (.slice (some (if m = l then ⟨r, base + off, none⟩ else ⟨r, base + off + l * sz, none⟩)) (h - l) (m - l)) := by
  unfold slcAt
  cases hq : Nat.beq m l with
  | true =>
    have := Nat.eq_of_beq_eq_true hq
    rw [cond_true, if_pos this]
    simp only [VR]
    exact ⟨r, base, e, hb, rfl⟩
  | false =>
    have : m ≠ l := fun e => by subst e; simp at hq
    rw [cond_false, if_neg this]
    simp only [VR]
    exact ⟨r, base, e, hb, by rw [Nat.add_assoc]; rfl⟩
theorem sliceC_some {b off cap sz : Nat} {l h m : Option Nat} (hne : sliceC b off cap sz l h m ≠ .bad) : ∃ l' h' m', l = some l' ∧ h = some h' ∧ m = some m' ∧ l' ≤ h' ∧ h' ≤ m' ∧ m' ≤ cap ∧ sliceC b off cap sz l h m = slcAt b off sz l' h' m' := by
  unfold sliceC at hne ⊢
  split at hne
  · rename_i l' h' m'
    cases hc : (leN l' h' && leN h' m' && leN m' cap) with
    | false => rw [hc] at hne; simp at hne
    | true =>
      simp only [leN, Bool.and_eq_true] at hc
      refine ⟨l', h', m', rfl, rfl, rfl, Nat.le_of_ble_eq_true hc.1.1, Nat.le_of_ble_eq_true hc.1.2, Nat.le_of_ble_eq_true hc.2, ?_⟩
      simp
  · exact absurd rfl hne
/-- the model's slicing of a slice -/
theorem run_slice_slice {t e : TypeId} (hu : P.underlying t = some (.slice e)) {sz : Nat} (hsz : size? P e = some sz) {a : Option Addr} {len cap l h m : Nat} {lo hi mx : Option Value}
    (hl : Bd lo 0 l) (hh : Bd hi len h) (hm : Bd mx cap m) (hmx : mx ≠ none → hi ≠ none) (h1 : l ≤ h) (h2 : h ≤ m) (h3 : m ≤ cap) :
    (Instr.sliceAt t (.slice a len cap) lo hi mx).run P w = .ok (.slice (if m = l then a else a.map (·.add (l * sz))) (h - l) (m - l)) w := by
  have hrun := run_bounds (P := P) (w := w) (isSlice := true) hl hh hm hmx h1 h2 h3
  simp only [Instr.sliceAt, Sem.run_bind, run_underlying hu, Result.andThen_ok, Instr.slice, hrun, run_sizeOf hsz, Sem.run_pure]
theorem run_slice_array {t e : TypeId} {n : Nat} (hu : P.underlying t = some (.array n e)) {sz : Nat} (hsz : size? P e = some sz) {a : Addr} {l h m : Nat} {lo hi mx : Option Value}
    (hl : Bd lo 0 l) (hh : Bd hi n h) (hm : Bd mx n m) (hmx : mx ≠ none → hi ≠ none) (h1 : l ≤ h) (h2 : h ≤ m) (h3 : m ≤ n) :
    (Instr.sliceAt t (.pointer (some a)) lo hi mx).run P w = .ok (.slice (some (if m = l then a else a.add (l * sz))) (h - l) (m - l)) w := by
  have hrun := run_bounds (P := P) (w := w) (isSlice := false) hl hh hm hmx h1 h2 h3
  simp only [Instr.sliceAt, Sem.run_bind, run_underlying hu, Result.andThen_ok, Instr.sureAddr, Sem.run_pure, hrun, run_sizeOf hsz]
theorem slice_sound (H : Rel ρ N s w) {t : TypeId} {x : Operand} {lo hi mx : Option Operand} (hx : OR ρ env re x) (hlo : OB env re ρ lo) (hhi : OB env re ρ hi) (hmx : OB env re ρ mx) :
    RR P ρ N s w k0 ((execOp re ⟨d, .slice t x lo hi mx, ty, pos, af, gd⟩).run P w) (exSlice t x lo hi mx P env s) := by
  unfold exSlice
  split
  · exact trivial
  rename_i hne
  have hform' : mx.map re ≠ none → hi.map re ≠ none := fun h => by
    cases mx with
    | none => simp at h
    | some y =>
      cases hi with
      | none => exact absurd rfl (hne y rfl)
      | some z => simp
  refine RR.rv H fun h => ?_
  have fin : ∀ {v : Value}, (Instr.sliceAt t (re x) (lo.map re) (hi.map re) (mx.map re)).run P w = .ok v w →
      (execOp re ⟨d, .slice t x lo hi mx, ty, pos, af, gd⟩).run P w = .ok (.value v) w := fun hv => by simp only [execOp]; exact run_v hv
  unfold sliceS at h ⊢
  split at h
  · rename_i hu
    split at h
    · rename_i len n hv
      obtain ⟨v, h1, h2⟩ := sliceStr_sound (w := w) hu hx hv hlo hhi h
      exact ⟨v, fin (by simpa using h1), h2⟩
    · exact absurd rfl h
  · rename_i e hu
    split at h
    · rename_i sz hsz
      split at h
      · -- nil
        rename_i hv
        have hxv := hx (by rw [hv]; simp)
        rw [hv] at hxv
        simp only [VR] at hxv
        split at h
        · rename_i q1 q2 q3
          refine ⟨.slice none 0 0, fin ?_, by simp [VR]⟩
          rw [hxv, run_slice_slice hu hsz (optN_bd hlo q1) (optN_bd hhi q2) (optN_bd hmx q3) hform' (Nat.le_refl _) (Nat.le_refl _) (Nat.le_refl _)]
          simp
        · exact absurd rfl h
      · -- emp
        rename_i hv
        have hxv := hx (by rw [hv]; simp)
        rw [hv] at hxv
        simp only [VR] at hxv
        obtain ⟨a, cap, hre⟩ := hxv
        split at h
        · rename_i q1 q2
          refine ⟨.slice (if cap = 0 then some a else (some a).map (·.add (0 * sz))) 0 cap, fin ?_, by simp only [VR]; by_cases h0 : cap = 0 <;> simp [h0]⟩
          rw [hre]
          exact run_slice_slice hu hsz (optN_bd hlo q1) (optN_bd hhi q2) (m := cap) (.inl ⟨rfl, rfl⟩) (by simp) (Nat.le_refl _) (Nat.zero_le _) (Nat.le_refl _)
        · exact absurd rfl h
      · -- slc
        rename_i b off len cap hv
        have hxv := hx (by rw [hv]; simp)
        rw [hv] at hxv
        simp only [VR] at hxv
        obtain ⟨r, base, e', hb, hre⟩ := hxv
        obtain ⟨l', h', m', q1, q2, q3, c1, c2, c3, he⟩ := sliceC_some h
        rw [he]
        have hrun := run_slice_slice (w := w) hu hsz (a := some ⟨r, base + off, none⟩) (cap := cap) (optN_bd hlo q1) (optN_bd hhi q2) (optN_bd hmx q3) hform' c1 c2 c3
        refine ⟨_, fin (by rw [hre]; exact hrun), ?_⟩
        have := slcAt_sound (sz := sz) hb c1 c2 (off := off)
        by_cases hml : m' = l'
        · rw [if_pos hml] at this ⊢; exact this
        · rw [if_neg hml] at this ⊢
          show VR ρ _ (Value.slice (some (Addr.add ⟨r, base + off, none⟩ (l' * sz))) _ _)
          rw [add_addr]; exact this
      · -- slo
        rename_i b off len sz' hv
        have hxv := hx (by rw [hv]; simp)
        rw [hv] at hxv
        simp only [VR] at hxv
        obtain ⟨r, base, e', cap, hb, hlc, hcap, hre⟩ := hxv
        cases hq : Nat.beq sz sz' with
        | false => rw [hq] at h; simp at h
        | true =>
          have := Nat.eq_of_beq_eq_true hq
          subst this
          rw [hq, cond_true] at h
          rw [cond_true]
          split at h
          · -- two indexes
            unfold sliceO at h ⊢
            split at h
            · rename_i l' h' q1 q2
              cases hc : (leN l' h' && (leN h' len || leN h' (knownIn s b off sz))) with
              | false => rw [hc] at h; simp at h
              | true =>
                simp only [hc, cond_true] at h ⊢
                rw [Bool.and_eq_true, Bool.or_eq_true] at hc
                have c1 : l' ≤ h' := Nat.le_of_ble_eq_true hc.1
                have c2 : h' ≤ cap := by
                  rcases hc.2 with h2 | h2
                  · have : h' ≤ len := Nat.le_of_ble_eq_true h2
                    omega
                  · have h3 : h' ≤ knownIn s b off sz := Nat.le_of_ble_eq_true h2
                    unfold knownIn at h3
                    have hL := H.live _ _ _ _ hb
                    cases hg : s.h.get b <;> rw [hg] at hL h3
                    case opn tb cs ub fz st =>
                      simp only at h3
                      obtain ⟨rc, fzr, ho, hsize, hlen, _⟩ := hL
                      have h4 : h' ≤ (cs.length - off) / sz := h3
                      by_cases hs0 : sz = 0
                      · subst hs0; simp at h4; omega
                      · have h5 : h' * sz ≤ cs.length - off := (Nat.le_div_iff_mul_le (by omega)).1 h4
                        have h6 : h' * sz ≤ cap * sz := by omega
                        exact Nat.le_of_mul_le_mul_right h6 (by omega)
                    all_goals (simp at h3; omega)
                have hrun := run_slice_slice (w := w) hu hsz (a := some ⟨r, base + off, none⟩) (cap := cap) (optN_bd hlo q1) (optN_bd hhi q2) (mx := none) (m := cap) (.inl ⟨rfl, rfl⟩) (by simp) c1 c2 (Nat.le_refl _)
                cases hk : (Nat.ble (Nat.succ l') len || Nat.beq l' 0) with
                | true =>
                  simp only [cond_true]
                  refine ⟨_, fin (by rw [hre]; exact hrun), ?_⟩
                  rw [Bool.or_eq_true] at hk
                  simp only [VR]
                  refine ⟨r, base, e', cap - l', hb, ?_, ?_, ?_⟩
                  · show h' - l' ≤ cap - l'; omega
                  · show base + (off + l' * sz) + (cap - l') * sz = e'
                    rw [Nat.sub_mul]
                    have : l' * sz ≤ cap * sz := Nat.mul_le_mul_right sz (by omega)
                    omega
                  · have hadd : (base + (off + l' * sz)) = base + off + l' * sz := by omega
                    rcases hk with hk | hk
                    · have : l' < len := Nat.le_of_ble_eq_true hk
                      rw [if_neg (by omega)]
                      show Value.slice (some (Addr.add ⟨r, base + off, none⟩ (l' * sz))) _ _ = _
                      rw [add_addr, ← hadd]; rfl
                    · have : l' = 0 := Nat.eq_of_beq_eq_true hk
                      subst this
                      by_cases h0 : cap = 0
                      · rw [if_pos h0]; simp
                      · rw [if_neg h0]
                        show Value.slice (some (Addr.add ⟨r, base + off, none⟩ (0 * sz))) _ _ = _
                        rw [add_addr, ← hadd]; rfl
                | false =>
                  simp only [hk, cond_false] at h ⊢
                  cases hlh : Nat.beq l' h' with
                  | false => rw [hlh] at h; simp at h
                  | true =>
                    have := Nat.eq_of_beq_eq_true hlh
                    subst this
                    rw [cond_true]
                    refine ⟨_, fin (by rw [hre]; exact hrun), ?_⟩
                    simp only [VR]
                    by_cases hm : cap = l'
                    · rw [if_pos hm]; exact ⟨⟨r, base + off, none⟩, cap - l', by simp⟩
                    · rw [if_neg hm]; exact ⟨(⟨r, base + off, none⟩ : Addr).add (l' * sz), cap - l', by simp⟩
            · exact absurd rfl h
          · -- three indexes
            rename_i mo
            obtain ⟨l', h', m', q1, q2, q3, c1, c2, c3, he⟩ := sliceC_some h
            rw [he]
            obtain ⟨km, hkm⟩ := (hmx mo rfl).asN q3
            have hrun := run_slice_slice (w := w) hu hsz (a := some ⟨r, base + off, none⟩) (cap := cap) (optN_bd hlo q1) (optN_bd hhi q2) (mx := some (re mo)) (m := m') (.inr ⟨km, by rw [hkm]⟩) hform' c1 c2 (by omega)
            refine ⟨_, fin (by rw [hre]; exact hrun), ?_⟩
            have := slcAt_sound (sz := sz) hb c1 c2 (off := off)
            by_cases hml : m' = l'
            · rw [if_pos hml] at this ⊢; exact this
            · rw [if_neg hml] at this ⊢
              show VR ρ _ (Value.slice (some (Addr.add ⟨r, base + off, none⟩ (l' * sz))) _ _)
              rw [add_addr]; exact this
      · exact absurd rfl h
    · exact absurd rfl h
  · rename_i n e hu
    split at h
    · rename_i sz b off hsz hv
      have hxv := hx (by rw [hv]; simp)
      rw [hv] at hxv
      simp only [VR] at hxv
      obtain ⟨r, base, e', hb, hre⟩ := hxv
      obtain ⟨l', h', m', q1, q2, q3, c1, c2, c3, he⟩ := sliceC_some h
      rw [he]
      have hrun := run_slice_array (w := w) hu hsz (a := ⟨r, base + off, none⟩) (optN_bd hlo q1) (optN_bd hhi q2) (optN_bd hmx q3) hform' c1 c2 c3
      refine ⟨_, fin (by rw [hre]; exact hrun), ?_⟩
      have := slcAt_sound (sz := sz) hb c1 c2 (off := off)
      by_cases hml : m' = l'
      · rw [if_pos hml] at this ⊢; exact this
      · rw [if_neg hml] at this ⊢
        rw [add_addr]; exact this
    · exact absurd rfl h
  · exact absurd rfl h
end Go.Sh
