/- Part of a proof about calls of this program: the evaluator of the first text is sound; this text is one step of it. No condition. -/
import Derived.Test.YtfbeheihdjglgaaDoorShZ
import Derived.Laws.Externs
import Derived.Lib.MakeNoZero
import Derived.OpenShut
import Derived.LaidLaws
import Derived.ProofKit
import Derived.LaidMore
import Derived.Lay
import Derived.SevenTiedAt
import Derived.Stop.Joined
set_option linter.unusedSectionVars false
set_option linter.unusedSimpArgs false
set_option linter.unusedVariables false
namespace Go.Sh
variable [Opq]
open Go.RowKit (Below)
variable {I : Rho → World → Prop}
variable {P : Program}

theorem idxB_eq (c : UInt8) : ∀ (l : List UInt8) (i : Nat), idxB c.toNat l.length (natOf l) i = (match l.findIdx? (· == c) with | some k => Int.ofNat (i + k) | none => -1)
  | [], i => by simp [idxB]
  | b :: l, i => by
    have m1 : Nat.mod (natOf (b :: l)) 256 = b.toNat := by rw [natOf_cons]; have := b.toNat_lt; show (b.toNat + 256 * natOf l) % 256 = _; omega
    have d1 : Nat.div (natOf (b :: l)) 256 = natOf l := by rw [natOf_cons]; have := b.toNat_lt; show (b.toNat + 256 * natOf l) / 256 = _; omega
    simp only [List.length_cons, idxB, m1, d1, List.findIdx?_cons]
    by_cases h : b = c
    · subst h
      have : Nat.beq b.toNat b.toNat = true := Nat.beq_refl _
      rw [this]; simp
    · have hb : Nat.beq b.toNat c.toNat = false := by
        cases hq : Nat.beq b.toNat c.toNat with
        | false => rfl
        | true => exact absurd (UInt8.toNat_inj.1 (Nat.eq_of_beq_eq_true hq)) h
      have hb2 : (b == c) = false := by rw [beq_eq_false_iff_ne]; exact h
      rw [hb, cond_false, idxB_eq c l, hb2]
      cases hf : l.findIdx? (· == c) with
      | none => rfl
      | some k => simp only [Option.map_some, Nat.succ_eq_add_one]; congr 1; omega

/-- the first place in a list at which a test holds, by places -/
theorem find_range {α : Type} (p : α → Bool) : ∀ (l : List α) (q : Nat → Bool) (_ : ∀ i (h : i < l.length), q i = p l[i]), (List.range l.length).find? q = l.findIdx? p
  | [], q, _ => rfl
  | a :: l, q, h => by
    rw [List.length_cons, List.range_succ_eq_map, List.find?_cons, List.findIdx?_cons]
    have h0 : q 0 = p a := h 0 (by simp)
    rw [h0]
    cases hp : p a with
    | true => simp
    | false =>
      have ih := find_range p l (fun i => q (i + 1)) (fun i hi => h (i + 1) (by simpa using hi))
      simp only [List.find?_map, Bool.false_eq_true, if_false]
      rw [← ih]
      congr 1

theorem firstIdx_eq (s : ByteArray) (c : UInt8) : firstIdx s c = idxB c.toNat s.size (natOf s.data.toList) 0 := by
  have hs : s.size = s.data.toList.length := by rw [Array.length_toList]; rfl
  rw [hs, idxB_eq, firstIdx]
  have : (List.range s.size).find? (fun i => s[i]! == c) = s.data.toList.findIdx? (· == c) := by
    rw [hs]
    refine find_range (· == c) s.data.toList _ fun i hi => ?_
    have hi' : i < s.size := by rw [hs]; exact hi
    rw [getElem!_pos s i hi']
    rfl
  rw [this]
  cases s.data.toList.findIdx? (· == c) with
  | none => rfl
  | some k => simp

theorem QV.same {ρ : Rho} {N : Bound I} {s : St} {w : World} (H : Rel ρ N s w) {kV kP : KV} {x : SV} {v : Value} (hv : VR ρ x v) (hk : kV x s = true) : QV ρ s w N kV kP (.returned v) w :=
  ⟨ρ, s, x, hv, H, Ext.refl ρ s, RowKit.Below.refl N w, hk⟩

/-- a row of the table, given the extern's own function -/
structure IsExt (P : Program) (f : FuncId) (e : Array Value → Sem Value) : Prop where
  ex : ∃ fn, P.funcs[f]? = some fn ∧ (fn.name == "runtime.NumGoroutine") = false ∧ fn.body.isNone = true ∧ Extern.findNext fn = none ∧ Extern.find fn = some e
theorem IsExt.run {f : FuncId} {e : Array Value → Sem Value} (h : IsExt P f e) (args : Array Value) (w : World) :
    (callFunc f args).run P w = ((e args).run P w).andThen fun v w' => .ok (.value v) w' := by
  obtain ⟨fn, h1, h2, h3, h4, h5⟩ := h.ex
  exact run_callFunc_extern h1 h2 h3 h4 h5 args w

theorem row_indexByteStr {f : FuncId} (he : IsExt P f Extern.BytealgIndexByte.indexByte) : RowOk I P f .indexByteStr := by
  intro args s kV kP h ρ N w args' H _ hargs
  unfold extS at h
  split at h
  all_goals first | (rename_i heq; cases heq; done) | skip
  case h_1 l n c _ =>
    obtain ⟨v1, r1, hv1, hr1, rfl⟩ := VRs.cons_inv hargs
    obtain ⟨v2, r2, hv2, hr2, rfl⟩ := VRs.cons_inv hr1
    obtain rfl := VRs.nil_iff.1 hr2
    simp only [VR] at hv1 hv2
    obtain ⟨b, rfl, hb1, hb2⟩ := hv1
    subst hv2
    cases hc : Nat.ble c 255 with
    | false => rw [hc, cond_false] at h; simp [failB] at h
    | true =>
      rw [hc, cond_true] at h
      have hc' : c ≤ 255 := Nat.le_of_ble_eq_true hc
      refine ⟨.int .i64 (firstIdx b (Int.toNat (.ofNat c)).toUInt8), w, ?_, QV.same H (x := .int .i64 (idxB c l n 0)) ?_ h⟩
      · rw [he.run]
        have := run_indexByte_string (P := P) b (.ofNat c) w
        rw [show ([Value.string b, Value.int .u8 (Int.ofNat c)].toArray) = #[.string b, .int .u8 (Int.ofNat c)] from rfl, this]
        rfl
      · simp only [VR]
        rw [firstIdx_eq, hb1, hb2]
        congr 3
        show (Nat.toUInt8 c).toNat = c
        simp [Nat.toUInt8]; omega
  all_goals simp_all [failB]

theorem coolB_cool {ρ : Rho} {N : Bound I} {s : St} {w : World} (H : Rel ρ N s w) {b r base e o : Nat} (hb : ρ b = some (r, base, e)) (hc : coolB o (s.h.get b) = true) :
    writable (s.h.get b) = true ∧ ∃ ty n, w.shape? r = some (ty, n) ∧ w.frozen? ⟨r, base + o, none⟩ = false ∧ w.frozen? ⟨r, n, none⟩ = false := by
  have hl := H.live _ _ _ _ hb
  cases hg : s.h.get b with
  | cells ty cs =>
    rw [hg] at hl
    obtain ⟨rc, ho, _⟩ := hl
    exact ⟨rfl, ty, rc.size, by simp [World.shape?, ho], frozen_at ho _ (by simp), frozen_at ho _ (by simp)⟩
  | opn ty cs ub fz st =>
    rw [hg] at hl hc
    obtain ⟨rc, fz', ho, h1, h2, h3, h4, h5, h6⟩ := hl
    simp only [coolB, Bool.and_eq_true, Bool.not_eq_true'] at hc
    obtain ⟨⟨hst, hfo⟩, hfc⟩ := hc
    have hfo := Nat.le_of_ble_eq_true hfo
    have hfc := Nat.le_of_ble_eq_true hfc
    have h7 := h6 hst
    refine ⟨rfl, ty, rc.size, by simp [World.shape?, ho], frozen_at ho _ (by omega), frozen_at ho _ (by omega)⟩
  | none => rw [hg] at hc; simp [coolB] at hc
  | ro ty cs => rw [hg] at hc; simp [coolB] at hc
  | map es c => rw [hg] at hc; simp [coolB] at hc
  | siter l n p => rw [hg] at hc; simp [coolB] at hc
  | lp _ _ _ _ _ _ _ _ => rw [hg] at hc; simp [coolB] at hc
  | dm => rw [hg] at hc; simp [coolB] at hc
  | mapp _ => rw [hg] at hc; simp [coolB] at hc
  | mapx _ => rw [hg] at hc; simp [coolB] at hc

theorem atS_vr {ρ : Rho} {x : SV} {v : Value} {b o l : Nat} (h : atS x = some (b, o, l)) (hv : VR ρ x v) : ∃ r base e c, ρ b = some (r, base, e) ∧ v = .slice (some ⟨r, base + o, none⟩) l c := by
  cases x <;> simp [atS] at h
  · obtain ⟨rfl, rfl, rfl⟩ := h
    simp only [VR] at hv
    obtain ⟨r, base, e, hb, rfl⟩ := hv
    exact ⟨r, base, e, _, hb, rfl⟩
  · obtain ⟨rfl, rfl, rfl⟩ := h
    simp only [VR] at hv
    obtain ⟨r, base, e, cap, hb, _, _, rfl⟩ := hv
    exact ⟨r, base, e, cap, hb, rfl⟩

theorem beq_false {a b : Nat} (h : a ≠ b) : Nat.beq a b = false := by
  cases hq : Nat.beq a b with
  | false => rfl
  | true => exact absurd (Nat.eq_of_beq_eq_true hq) h
theorem ov_match {motive : Array Value → Sort _} (a : Option Addr) (la ca : Nat) (b : Option Addr) (lb cb : Nat) (h1 h2) :
    @Extern.SlicesOverlaps.overlaps.match_4 motive #[Value.slice a la ca, Value.slice b lb cb] h1 h2 = h1 a la ca b lb cb := rfl
theorem row_overlaps {f : FuncId} {ps rs : Array TypeId} {t e : TypeId} {sz : Nat} (he : IsExt P f (Extern.SlicesOverlaps.overlaps ps rs)) (ht : ps[0]? = some t) (hu : P.underlying t = some (.slice e)) (hz : size? P e = some sz) :
    RowOk I P f (.overlaps sz) := by
  have hsz : ∀ w, (sizeOf e).run P w = .ok sz w := fun w => run_sizeOf hz w
  have hul : ∀ w, (underlying t).run P w = .ok (.slice e) w := fun w => run_underlying hu w
  intro args s kV kP h ρ N w args' H _ hargs
  have two : ∃ x y, args = [x, y] := by
    unfold extS at h
    split at h <;> first | (rename_i heq; cases heq; done) | exact ⟨_, _, rfl⟩ | simp [failB] at h
  obtain ⟨x, y, rfl⟩ := two
  obtain ⟨v1, r1, hv1, hr1, rfl⟩ := VRs.cons_inv hargs
  obtain ⟨v2, r2, hv2, hr2, rfl⟩ := VRs.cons_inv hr1
  obtain rfl := VRs.nil_iff.1 hr2
  have arr : [v1, v2].toArray = #[v1, v2] := rfl
  -- what the entry gives at two slices
  have fin : ∀ (r : Bool), ((Extern.SlicesOverlaps.overlaps ps rs #[v1, v2]).run P w = .ok (.bool r) w) → kV (.bool r) s = true →
      ∃ v w', (callFunc f [v1, v2].toArray).run P w = .ok (.value v) w' ∧ QV ρ s w N kV kP (.returned v) w' := by
    intro r hr hk
    refine ⟨.bool r, w, ?_, QV.same H (x := .bool r) (by simp [VR]) hk⟩
    rw [he.run, arr, hr]; rfl
  simp only [extS] at h
  have nilL : ∀ lb cb a, v1 = .slice none 0 0 → v2 = .slice a lb cb → (Extern.SlicesOverlaps.overlaps ps rs #[v1, v2]).run P w = .ok (.bool false) w := by
    rintro lb cb a rfl rfl
    unfold Extern.SlicesOverlaps.overlaps; rw [ov_match]; simp [ht, hul, hsz]
  have nilR : ∀ a la ca, v1 = .slice (some a) la ca → v2 = .slice none 0 0 → (Extern.SlicesOverlaps.overlaps ps rs #[v1, v2]).run P w = .ok (.bool false) w := by
    rintro a la ca rfl rfl
    unfold Extern.SlicesOverlaps.overlaps; rw [ov_match]; simp [ht, hul, hsz]
  split at h
  · -- x is nil
    simp only [VR] at hv1
    split at h
    · simp only [VR] at hv2
      exact fin false (nilL _ _ _ hv1 hv2) h
    · cases hy : atS y with
      | none => rw [hy] at h; simp [failB] at h
      | some q =>
        obtain ⟨b', o', l'⟩ := q
        rw [hy] at h
        obtain ⟨r, base, e', c, hb, hv⟩ := atS_vr hy hv2
        exact fin false (nilL _ _ _ hv1 hv) h
  · cases hx : atS x with
    | none => rw [hx] at h; simp [failB] at h
    | some q =>
      obtain ⟨b, o, l⟩ := q
      obtain ⟨r, base, e1, c1, hb, hv⟩ := atS_vr hx hv1
      rw [hx] at h
      simp only at h
      split at h
      · simp only [VR] at hv2
        exact fin false (nilR _ _ _ hv hv2) h
      · cases hy : atS y with
        | none => rw [hy] at h; simp [failB] at h
        | some q =>
          obtain ⟨b', o', l'⟩ := q
          obtain ⟨r', base', e2, c2, hb', hv'⟩ := atS_vr hy hv2
          rw [hy] at h
          simp only at h
          cases hc : (Nat.beq b b' || Nat.beq l 0 || Nat.beq l' 0 || (coolB o (s.h.get b) && coolB o' (s.h.get b'))) with
          | false => rw [hc] at h; simp [failB] at h
          | true =>
            rw [hc, cond_true] at h
            refine fin _ ?_ h
            subst hv hv'
            by_cases h0 : l = 0 ∨ l' = 0 ∨ sz = 0
            · have : ovl sz b o l b' o' l' = false := by
                unfold ovl
                have : (Nat.beq l 0 || Nat.beq l' 0 || Nat.beq sz 0) = true := by
                  rcases h0 with rfl | rfl | rfl <;> simp
                rw [this]; rfl
              rw [this]
              unfold Extern.SlicesOverlaps.overlaps; rw [ov_match]; simp [ht, hul, hsz, h0]
            · have hov : ovl sz b o l b' o' l' = (Nat.beq b b' && (decide (o < o' + l' * sz) && decide (o' < o + l * sz))) := by
                unfold ovl
                have z : (Nat.beq l 0 || Nat.beq l' 0 || Nat.beq sz 0) = false := by
                  have h1 : Nat.beq l 0 = false := beq_false fun e0 => h0 (Or.inl e0)
                  have h2 : Nat.beq l' 0 = false := beq_false fun e0 => h0 (Or.inr (Or.inl e0))
                  have h3 : Nat.beq sz 0 = false := beq_false fun e0 => h0 (Or.inr (Or.inr e0))
                  rw [h1, h2, h3]; rfl
                have ble : ∀ a b : Nat, Nat.ble (a + 1) b = decide (a < b) := fun a b => by
                  cases hq : Nat.ble (a + 1) b with
                  | true => exact (decide_eq_true (Nat.le_of_ble_eq_true hq)).symm
                  | false => exact (decide_eq_false fun hlt => by rw [Nat.ble_eq_true_of_le hlt] at hq; cases hq).symm
                rw [z, cond_false, ble, ble, Bool.and_assoc]
              rw [hov]
              by_cases hbb : b = b'
              · subst hbb
                rw [hb] at hb'
                obtain ⟨rfl, rfl, rfl⟩ : r = r' ∧ base = base' ∧ e1 = e2 := by injection hb' with hb'; injection hb' with p q; injection q with q1 q2; exact ⟨p, q1, q2⟩
                have e1 : decide (base + o < base + o' + l' * sz) = decide (o < o' + l' * sz) := by
                  have : (base + o < base + o' + l' * sz) ↔ (o < o' + l' * sz) := by omega
                  exact decide_eq_decide.2 this
                have e2 : decide (base + o' < base + o + l * sz) = decide (o' < o + l * sz) := by
                  have : (base + o' < base + o + l * sz) ↔ (o' < o + l * sz) := by omega
                  exact decide_eq_decide.2 this
                unfold Extern.SlicesOverlaps.overlaps; rw [ov_match]; simp [ht, hul, hsz, h0, e1, e2]
              · have hbf : Nat.beq b b' = false := beq_false hbb
                have h1 : Nat.beq l 0 = false := beq_false fun e0 => h0 (Or.inl e0)
                have h2 : Nat.beq l' 0 = false := beq_false fun e0 => h0 (Or.inr (Or.inl e0))
                rw [hbf, h1, h2] at hc
                simp only [Bool.false_or, Bool.and_eq_true] at hc
                obtain ⟨n1, ty1, m1, s1, f1, g1⟩ := coolB_cool H hb hc.1
                obtain ⟨n2, ty2, m2, s2, f2, g2⟩ := coolB_cool H hb' hc.2
                have hrr : r ≠ r' := by
                  intro er
                  subst er
                  exact hbb (H.inj _ _ _ _ _ _ _ hb hb' n1 (isNone_of_writable n2))
                rw [hbf]
                unfold Extern.SlicesOverlaps.overlaps; rw [ov_match]; simp [ht, hul, hsz, h0, hrr, f1, f2, g1, g2, noView, viewAt, s1, s2, mayBeOne, stringish]

theorem row_same {f : FuncId} (he : IsExt P f Extern.AbiNoEscape.same) : RowOk I P f .same := by
  intro args s kV kP h ρ N w args' H _ hargs
  unfold extS at h
  split at h
  all_goals first | (rename_i heq; cases heq; done) | skip
  case h_5 x _ =>
    obtain ⟨v1, r1, hv1, hr1, rfl⟩ := VRs.cons_inv hargs
    obtain rfl := VRs.nil_iff.1 hr1
    refine ⟨v1, w, ?_, QV.same H hv1 h⟩
    rw [he.run]
    rfl
  all_goals simp_all [failB]
theorem row_makeNoZero {f : FuncId} {ps : Array TypeId} {t e : TypeId} (he : IsExt P f (Extern.BytealgMakeNoZero.makeNoZero ps #[t])) (ht : P.underlying t = some (.slice e)) : RowOk I P f (.makeNoZero e) := by
  intro args s kV kP h ρ N w args' H _ hargs
  unfold extS at h
  split at h
  all_goals first | (rename_i heq; cases heq; done) | skip
  case h_7 e' n heq =>
    cases heq
    obtain ⟨v1, r1, hv1, hr1, rfl⟩ := VRs.cons_inv hargs
    obtain rfl := VRs.nil_iff.1 hr1
    simp only [VR] at hv1
    subst hv1
    cases hc : Nat.ble n 1048576 with
    | false => rw [hc, cond_false] at h; simp [failB] at h
    | true =>
      rw [hc, cond_true] at h
      have hn : n ≤ 1048576 := Nat.le_of_ble_eq_true hc
      obtain ⟨cs, hrun, hle, _⟩ := Go.Lib.run_makeNoZero (P := P) w ps t e ht n (by omega)
      have hBR : BR ρ 0 cs.size (.opn e (List.replicate n .junk) big 0 false) (some (.cells cs e (0, 0))) := by
        refine ⟨cs, (0, 0), rfl, rfl, by simpa using hle, fun k => absurd k (Nat.lt_irrefl _), ?_, fun i _ _ k => absurd k.2 (Nat.not_lt_zero _), fun _ => Nat.zero_le _⟩
        intro i x hx
        obtain ⟨hi, hx'⟩ := List.getElem?_eq_some_iff.1 hx
        simp only [List.length_replicate] at hi
        simp only [List.getElem_replicate] at hx'
        subst hx'
        exact ⟨cs[i]'(by omega), by rw [Nat.zero_add]; exact Array.getElem?_eq_getElem (by omega), by simp [VR]⟩
      have hnew := (H.drew.drew).new hBR
      refine ⟨_, _, by rw [he.run]; rw [show ([Value.int .i64 (Int.ofNat n)].toArray) = #[.int .i64 (n : Int)] from rfl, hrun]; rfl, ρ.add s.nx (w.heap.size, 0, cs.size), _, .slo s.nx 0 n 1, ?_, hnew, Ext.new H _ _, (Below.drawn _).trans (Below.newDrew (w := w.drew) H.size _), h⟩
      simp only [VR]
      exact ⟨w.heap.size, 0, cs.size, cs.size, Rho.add_self _ _ _, hle, by omega, rfl⟩
  all_goals simp_all [failB]
end Go.Sh
namespace Go.Sh
open Go.RowKit (Below)
variable {I : Rho → World → Prop}
variable {P : Program} {E : EE}

/-- the heap of a row: what is known of the variables, and the row's own blocks, to be read -/
noncomputable def rowHp (K : Hp) : List (Nat × Nat × List SV) → Hp
  | [] => K
  | x :: bs => (rowHp K bs).set x.1 (.ro x.2.1 x.2.2)
theorem rowHp_get (K : Hp) : ∀ (bs : List (Nat × Nat × List SV)) (b : Nat), (rowHp K bs).get b = K.get b ∨ (rowHp K bs).get b = .none ∨ ∃ x ∈ bs, x.1 = b ∧ (rowHp K bs).get b = .ro x.2.1 x.2.2
  | [], b => .inl rfl
  | x :: bs, b => by
    simp only [rowHp]
    by_cases hb : b = x.1
    · subst hb
      rcases Hp.get_set_eq (rowHp K bs) x.1 (.ro x.2.1 x.2.2) with hg | hg
      · exact .inr (.inr ⟨x, List.mem_cons_self, rfl, hg⟩)
      · exact .inr (.inl hg)
    · rw [Hp.get_set_ne _ _ _ _ hb]
      rcases rowHp_get K bs b with h | h | ⟨y, hy, h1, h2⟩
      · exact .inl h
      · exact .inr (.inl h)
      · exact .inr (.inr ⟨y, List.mem_cons_of_mem _ hy, h1, h2⟩)
variable [Opq]
/-- what is asked of the knowledge of the world -/
structure KI (I : Rho → World → Prop) (K : Hp) : Prop where
  live : ∀ ρ w, I ρ w → ∀ b q base e, ρ b = some (q, base, e) → BR ρ base e (K.get b) w.heap[q]?
  ro : ∀ b, writable (K.get b) = false
  bound : ∀ ρ w, I ρ w → ∃ N : Bound I, N.n = w.heap.size

theorem krow_rel {K : Hp} (hK : KI I K) (r : KRow) {ρ : Rho} {w : World} (hI : I ρ w) (hf : ∀ b, r.nx ≤ b → ρ b = none) (hb : ∀ b q base e, ρ b = some (q, base, e) → q < w.heap.size)
    (hbs : ∀ x ∈ r.bs, ∀ q base e, ρ x.1 = some (q, base, e) → BR ρ base e (.ro x.2.1 x.2.2) w.heap[q]?) : ∃ N : Bound I, N.n = w.heap.size ∧ Rel ρ N ⟨rowHp K r.bs, r.nx, big⟩ w := by
  obtain ⟨N, hN⟩ := hK.bound ρ w hI
  have nw : ∀ b, writable ((rowHp K r.bs).get b) = false := fun b => by
    rcases rowHp_get K r.bs b with h | h | ⟨x, _, _, h⟩
    · rw [h]; exact hK.ro b
    · rw [h]; rfl
    · rw [h]; rfl
  refine ⟨N, hN, ⟨hf, ?_, hb, ?_, ?_, by omega, hI⟩⟩
  · intro b q base e hq
    show BR ρ base e ((rowHp K r.bs).get b) _
    rcases rowHp_get K r.bs b with h | h | ⟨x, hx, rfl, h⟩
    · rw [h]; exact hK.live ρ w hI b q base e hq
    · rw [h]; simp [BR]
    · rw [h]; exact hbs x hx q base e hq
  · intro b q base e _ hw
    exact absurd (nw b) (by rw [show writable ((rowHp K r.bs).get b) = true from hw]; simp)
  · intro b b' q base e base' e' _ _ hw _
    exact absurd (nw b) (by rw [show writable ((rowHp K r.bs).get b) = true from hw]; simp)

theorem sameEs_eq : ∀ (xs ys : List (SV × SV × Nat)), sameEs xs ys = true → xs = ys
  | [], [], _ => rfl
  | [], _ :: _, h => by cases h
  | _ :: _, [], h => by cases h
  | (a, b, n) :: xs, (c, d, m) :: ys, h => by
    simp only [sameEs] at h
    cases h1 : sameF 1000 a c with
    | false => rw [h1] at h; cases h
    | true =>
      rw [h1, cond_true] at h
      cases h2 : sameF 1000 b d with
      | false => rw [h2] at h; cases h
      | true =>
        rw [h2, cond_true] at h
        cases h3 : Nat.beq n m with
        | false => rw [h3] at h; cases h
        | true =>
          rw [h3, cond_true] at h
          rw [sameF_eq _ _ _ h1, sameF_eq _ _ _ h2, Nat.eq_of_beq_eq_true h3, sameEs_eq xs ys h]
theorem eqB_true {a b : Bool} (h : eqB a b = true) : a = b := by cases a <;> cases b <;> first | rfl | cases h
theorem sameBlk_eq {x y : SBlk} (h : sameBlk x y = true) : x = .none ∨ (x = y ∧ writable x = true) := by
  cases x with
  | none => exact .inl rfl
  | cells t cs =>
    right
    simp only [sameBlk] at h
    split at h
    · rename_i t' cs'
      cases h1 : Nat.beq t t' with
      | false => rw [h1] at h; cases h
      | true => rw [h1, cond_true] at h; exact ⟨by rw [Nat.eq_of_beq_eq_true h1, samesF_eq _ _ _ h], rfl⟩
    · cases h
  | opn t cs ub fz st =>
    right
    simp only [sameBlk] at h
    split at h
    · rename_i t' cs' ub' fz' st'
      cases h1 : (Nat.beq t t' && Nat.beq ub ub' && Nat.beq fz fz' && eqB st st') with
      | false => rw [h1] at h; cases h
      | true =>
        rw [h1, cond_true] at h
        simp only [Bool.and_eq_true] at h1
        exact ⟨by rw [Nat.eq_of_beq_eq_true h1.1.1.1, Nat.eq_of_beq_eq_true h1.1.1.2, Nat.eq_of_beq_eq_true h1.1.2, eqB_true h1.2, samesF_eq _ _ _ h], rfl⟩
    · cases h
  | map es c =>
    right
    simp only [sameBlk] at h
    split at h
    · rename_i es' c'
      cases h1 : Nat.beq c c' with
      | false => rw [h1] at h; cases h
      | true => rw [h1, cond_true] at h; exact ⟨by rw [Nat.eq_of_beq_eq_true h1, sameEs_eq _ _ h], rfl⟩
    · cases h
  | ro t cs => simp [sameBlk] at h
  | siter l n p => simp [sameBlk] at h
  | lp _ _ _ _ _ _ _ _ => simp [sameBlk] at h
  | dm => simp [sameBlk] at h
  | mapp _ => simp [sameBlk] at h
  | mapx _ => simp [sameBlk] at h
theorem newsFit_all : ∀ (l : List SBlk) (b : Nat) (s : St), newsFit l b s = true → s.nx = b + l.length ∧ ∀ (i : Nat) (blk : SBlk), l[i]? = some blk → sameBlk blk (s.h.get (b + i)) = true
  | [], b, s, h => ⟨by simpa using Nat.eq_of_beq_eq_true h, fun i blk hi => by simp at hi⟩
  | x :: l, b, s, h => by
    simp only [newsFit] at h
    cases h1 : sameBlk x (s.h.get b) with
    | false => rw [h1] at h; cases h
    | true =>
      rw [h1, cond_true] at h
      obtain ⟨h2, h3⟩ := newsFit_all l (Nat.succ b) s h
      refine ⟨by rw [h2, List.length_cons]; omega, fun i blk hi => ?_⟩
      cases i with
      | zero => simp only [List.getElem?_cons_zero, Option.some.injEq] at hi; subst hi; exact h1
      | succ i =>
        have := h3 i blk (by simpa using hi)
        rw [show b + (i + 1) = Nat.succ b + i by omega]
        exact this
def rowSc (r : KRow) : Bool := match r.news with | none => scalV r.res | some _ => true
theorem row_end {ρ ρ' : Rho} {N : Bound I} {s s' : St} {w w' : World} {r : KRow} {x : SV} {v : Value} (hN : N.n = w.heap.size) (hnx : s.nx = r.nx) (hsc : rowSc r = true) (hx : VR ρ' x v) (H' : Rel ρ' N s' w') (hE : Ext ρ s ρ' s') (hk : rowEnd r x s' = true) : RowEnd ρ w w' r v := by
  obtain ⟨nx, args, bs, res, news⟩ := r
  unfold rowEnd at hk
  cases h1 : sameF 1000 x res with
  | false => simp only [h1] at hk; cases hk
  | true =>
    simp only [h1, cond_true] at hk
    obtain rfl := sameF_eq _ _ _ h1
    cases news with
    | none => exact scalV_VR hsc hx
    | some l =>
      simp only at hk hnx
      obtain ⟨h2, h3⟩ := newsFit_all l nx s' hk
      have at' : ∀ (i : Nat) (blk : SBlk), l[i]? = some blk → isNone blk = false → blk = s'.h.get (nx + i) ∧ writable blk = true := fun i blk hi hn => by
        rcases sameBlk_eq (h3 i blk hi) with rfl | h
        · simp [isNone] at hn
        · exact h
      refine ⟨ρ', hE.le, hx, fun b hb => H'.fresh b (by rw [h2]; exact hb), fun b hb' => ?_, H'.bound, ?_, ?_, fun i blk hi hn => (at' i blk hi hn).2⟩
      · have hb : b < nx := hb'
        cases hr : ρ b with
        | none => exact (hE.keep b (by omega) hr).1
        | some y => exact hE.le b y hr
      · intro i blk hi q base e hq
        rcases sameBlk_eq (h3 i blk hi) with rfl | ⟨h4, h5⟩
        · exact ⟨by simp [BR], fun h => by simp [isNone] at h⟩
        · have hL := H'.live _ _ _ _ hq
          rw [← h4] at hL
          refine ⟨hL, fun _ => ?_⟩
          have := H'.low _ _ _ _ hq (by rw [← h4]; exact h5)
          rw [← hN]
          exact this
      · intro i j blk blk' hi hj hn hn' q base e base' e' hq hq'
        obtain ⟨e1, w1⟩ := at' i blk hi hn
        obtain ⟨e2, _⟩ := at' j blk' hj hn'
        have := H'.inj _ _ _ _ _ _ _ hq hq' (by rw [← e1]; exact w1) (by rw [← e2]; exact hn')
        omega
/-- **A row of calls, out of the evaluator's answer.** -/
theorem krow_of_ev (hM : P.follows .mixedOrders = true) (hP : PH P E) {X : FuncId → Option XK} (hX : XOk I P X) {K : Hp} (hK : KI I K) {f : FuncId} {r : KRow} {m : Nat}
    (hnx : Nat.beq r.nx 0 = false) (hsc : rowSc r = true) (hbody : (bodyOf P f).isSome = true)
    (h : (ev E X P (m + 1)).f.f f r.args ⟨rowHp K r.bs, r.nx, big⟩ (rowEnd r) (fun _ _ => false) = true) : KRowOk I P f r where
  body := hbody
  calls ρ w args' hI hG hf hb hbs hargs := by
    obtain ⟨N, hN, H⟩ := krow_rel hK r hI (hf fun h => by rw [h] at hnx; simp at hnx) hb hbs
    obtain ⟨_, h2, _⟩ := ev_sound (E := E) hM hP hX (m + 1)
    rcases h2.f f r.args _ _ _ h ρ N w args' H hG hargs with ⟨_, hc⟩ | ⟨v, w', hv, _⟩
    · refine hc.mono fun e w' he => ?_
      cases e with
      | returned v =>
        obtain ⟨ρ', s', x, hx, H', hE, hB, hk⟩ := he
        exact ⟨v, rfl, by rw [← hN]; exact hB, row_end hN rfl hsc hx H' hE hk⟩
      | panicked c =>
        obtain ⟨_, _, _, _, _, _, _, _, _, hk⟩ := he
        cases hk
      | outgrown => exact he.elim
    · rw [enter_of_body hbody] at hv
      cases hv

/-! ## the knowledge of the variables that are laid -/
def LaidI (K : Hp) (ρ0 : Rho) (n0 : Nat) (ρ : Rho) (w : World) : Prop :=
  ρ0.le ρ ∧ n0 ≤ w.heap.size ∧ (∀ b, isNone (K.get b) = false → ∃ x, ρ0 b = some x) ∧ ∀ b q base e, ρ0 b = some (q, base, e) → q < n0 ∧ BR ρ0 base e (K.get b) w.heap[q]?
theorem LaidI.stable {K : Hp} {ρ0 : Rho} {n0 n : Nat} (hn : n0 ≤ n) (ρ ρ' : Rho) (w w' : World) (h : LaidI K ρ0 n0 ρ w) (hle : ρ.le ρ') (hB : Below n w w') : LaidI K ρ0 n0 ρ' w' :=
  ⟨Rho.le_trans h.1 hle, Nat.le_trans h.2.1 hB.size, h.2.2.1, fun b q base e hq => ⟨(h.2.2.2 b q base e hq).1, by
    rw [hB.block q (Nat.lt_of_lt_of_le (h.2.2.2 b q base e hq).1 hn)]; exact (h.2.2.2 b q base e hq).2⟩⟩
theorem LaidI.ki {K : Hp} {ρ0 : Rho} {n0 : Nat} (ro : ∀ b, writable (K.get b) = false) : KI (LaidI K ρ0 n0) K where
  live ρ w h b q base e hq := by
    cases hn : isNone (K.get b) with
    | true => cases hg : K.get b <;> rw [hg] at hn <;> simp [isNone] at hn; simp [BR]
    | false =>
      obtain ⟨⟨q', base', e'⟩, hx⟩ := h.2.2.1 b hn
      have := h.1 b _ hx
      rw [hq] at this
      cases this
      exact (h.2.2.2 b q base e hx).2.mono h.1
  ro := ro
  bound ρ w h := ⟨⟨w.heap.size, LaidI.stable h.2.1⟩, rfl⟩
/-! ## rows at any number of names -/
/-- does a value lead nowhere? -/
def flatF : Nat → SV → Bool
  | 0 => fun _ => false
  | n + 1 => fun x => (match x with
    | .agg cs => cs.all (flatF n)
    | .tup cs => cs.all (flatF n)
    | .fn _ a c => a.all (flatF n) && c.all (flatF n)
    | .ifc _ v => flatF n v
    | .emp => true
    | v => scal v)
theorem flatF_VR {ρ ρ' : Rho} : ∀ (n : Nat) (x : SV) (v : Value), flatF n x = true → VR ρ x v → VR ρ' x v
  | 0, x, v, h, _ => by simp [flatF] at h
  | n + 1, x, v, h, hv => by
    have all : ∀ (cs : List SV) (l : List Value), cs.all (flatF n) = true → VRs ρ cs l → VRs ρ' cs l := by
      intro cs
      induction cs with
      | nil => intro l _ hl; rw [VRs.nil_iff] at hl ⊢; exact hl
      | cons c cs ih =>
        intro l hc hl
        rw [List.all_cons, Bool.and_eq_true] at hc
        obtain ⟨y, ys, h1, h2, rfl⟩ := hl.cons_inv
        exact VRs.cons (flatF_VR n c y hc.1 h1) (ih ys hc.2 h2)
    simp only [flatF] at h
    split at h
    · rename_i cs; simp only [VR] at hv ⊢; obtain ⟨l, hl, rfl⟩ := hv; exact ⟨l, all cs l h hl, rfl⟩
    · rename_i cs; simp only [VR] at hv ⊢; obtain ⟨l, hl, rfl⟩ := hv; exact ⟨l, all cs l h hl, rfl⟩
    · rename_i f a c
      rw [Bool.and_eq_true] at h
      simp only [VR] at hv ⊢
      obtain ⟨a', c', ha, hc, rfl⟩ := hv
      exact ⟨a', c', all a a' h.1 ha, all c c' h.2 hc, rfl⟩
    · rename_i t y; simp only [VR] at hv ⊢; obtain ⟨u, hu, rfl⟩ := hv; exact ⟨u, flatF_VR n y u h hu, rfl⟩
    · simpa [VR] using hv
    · exact scal_VR h hv
theorem flats_VR {ρ ρ' : Rho} {n : Nat} : ∀ (cs : List SV) (l : List Value), cs.all (flatF n) = true → VRs ρ cs l → VRs ρ' cs l
  | [], l, _, hl => by rw [VRs.nil_iff] at hl ⊢; exact hl
  | c :: cs, l, hc, hl => by
    rw [List.all_cons, Bool.and_eq_true] at hc
    obtain ⟨y, ys, h1, h2, rfl⟩ := hl.cons_inv
    exact VRs.cons (flatF_VR n c y hc.1 h1) (flats_VR cs ys hc.2 h2)
def Rho.cut (ρ : Rho) (G : Nat) : Rho := fun b => if b < G then ρ b else none
/-- **A row of calls whose arguments lead nowhere: at any number of names.** -/
theorem krow_any_of_ev (hM : P.follows .mixedOrders = true) (hP : PH P E) {X : FuncId → Option XK} {K : Hp} {ρ0 : Rho} {n0 : Nat} (hX : XOk (LaidI K ρ0 n0) P X) (ro : ∀ b, writable (K.get b) = false) {G : Nat} (hGs : P.globals.size = G) (h0 : ∀ b, G ≤ b → ρ0 b = none) {f : FuncId} {r : KRow} {m : Nat}
    (hnx : r.nx = 0) (hbs : r.bs = []) (hnw : r.news = none) (hfl : r.args.all (flatF 100) = true) (hsc : rowSc r = true) (hbody : (bodyOf P f).isSome = true)
    (h : (ev E X P (m + 1)).f.f f r.args ⟨K, G, big⟩ (rowEnd r) (fun _ _ => false) = true) : KRowOk (LaidI K ρ0 n0) P f r where
  body := hbody
  calls ρ w args' hI hG _ hb _ hargs := by
    have hle : ρ0.le (ρ.cut G) := fun b x hx => by
      have hlt : b < G := by
        rcases Nat.lt_or_ge b G with h' | h'
        · exact h'
        · rw [h0 b h'] at hx; cases hx
      unfold Rho.cut
      rw [if_pos hlt]
      exact hI.1 b x hx
    have hI' : LaidI K ρ0 n0 (ρ.cut G) w := ⟨hle, hI.2⟩
    have hcut : ∀ b x, ρ.cut G b = some x → ρ b = some x := fun b x hx => by
      unfold Rho.cut at hx
      split at hx
      · exact hx
      · cases hx
    let N : Bound (LaidI K ρ0 n0) := ⟨w.heap.size, LaidI.stable hI.2.1⟩
    have H : Rel (ρ.cut G) N ⟨K, G, big⟩ w := by
      refine ⟨fun b hb' => ?_, fun b q base e hq => (LaidI.ki ro).live _ _ hI' b q base e hq, fun b q base e hq => hb b q base e (hcut b _ hq), fun b q base e _ hw => ?_, fun b b' q base e base' e' _ _ hw _ => ?_, Nat.le_refl _, hI'⟩
      · unfold Rho.cut
        have hb'' : G ≤ b := hb'
        rw [if_neg (by omega)]
      · have := ro b; rw [show writable (K.get b) = true from hw] at this; cases this
      · have := ro b; rw [show writable (K.get b) = true from hw] at this; cases this
    have hG' : Glob P.globals.size (ρ.cut G) := fun g hg => by
      obtain ⟨e, he⟩ := hG g hg
      refine ⟨e, ?_⟩
      unfold Rho.cut
      rw [if_pos (by omega)]
      exact he
    obtain ⟨_, h2, _⟩ := ev_sound (E := E) hM hP hX (m + 1)
    rcases h2.f f r.args _ _ _ h (ρ.cut G) N w args' H hG' (flats_VR _ _ hfl hargs) with ⟨_, hc⟩ | ⟨v, w', hv, _⟩
    · refine hc.mono fun e w' he => ?_
      cases e with
      | returned v =>
        obtain ⟨ρ', s', x, hx, H', hE, hB, hk⟩ := he
        refine ⟨v, rfl, hB, ?_⟩
        unfold rowEnd at hk
        unfold RowEnd
        rw [hnw] at hk ⊢
        cases h1 : sameF 1000 x r.res with
        | false => rw [h1] at hk; cases hk
        | true =>
          have := sameF_eq _ _ _ h1
          subst this
          unfold rowSc at hsc
          rw [hnw] at hsc
          exact scalV_VR hsc hx
      | panicked c =>
        obtain ⟨_, _, _, _, _, _, _, _, _, hk⟩ := he
        cases hk
      | outgrown => exact he.elim
    · rw [enter_of_body hbody] at hv
      cases hv
/-- the call of a function without arguments, at the start -/
theorem start_of_row {K : Hp} {ρ0 : Rho} {w : World} {f : FuncId} {r : KRow} (hr : KRowOk (LaidI K ρ0 w.heap.size) P f r) (ha : r.args = []) (hbs : r.bs = []) (hnw : r.news = none) (hG : Glob P.globals.size ρ0)
    (hfr : ∀ b, r.nx ≤ b → ρ0 b = none) (hdom : ∀ b, isNone (K.get b) = false → ∃ x, ρ0 b = some x) (hl : ∀ b q base e, ρ0 b = some (q, base, e) → q < w.heap.size ∧ BR ρ0 base e (K.get b) w.heap[q]?) :
    Calls P f #[] w (fun e w' => ∃ v, e = .returned v ∧ VR ρ0 r.res v ∧ Below w.heap.size w w') := by
  have := hr.calls ρ0 w [] ⟨Rho.le_refl _, Nat.le_refl _, hdom, hl⟩ hG (fun _ => hfr) (fun b q base e hq => (hl b q base e hq).1) (by rw [hbs]; intro x hx; cases hx) (by rw [ha]; exact VRs.nil)
  refine this.mono fun e w' he => ?_
  obtain ⟨v, h1, h2, h3⟩ := he
  unfold RowEnd at h3
  rw [hnw] at h3
  exact ⟨v, h1, h3, h2⟩
end Go.Sh
namespace Go.Sh
variable [Opq]
open Go.RowKit (Below)
variable {P : Program}

/-! ## what a variable's datum says of its cells -/
def catS (c : Nat) : List (Option (List SV)) → Option (List SV)
  | [] => some []
  | x :: xs => (match x with
    | some l => cond (Nat.beq l.length c) (match catS c xs with | some r => some (l ++ r) | none => none) none
    | none => none)
def structS (P : Program) (g : TypeId → DataW Unit → Option (List SV)) (total : Nat) : List Field → List (DataW Unit) → Nat → Option (List SV)
  | [] => fun ds o => (match ds with | [] => cond (Nat.beq o total) (some []) none | _ :: _ => none)
  | fd :: fs => fun ds o => (match ds with
    | [] => none
    | d :: ds => cond (Nat.beq fd.offset o) (match g fd.type d with
      | some l => cond (Nat.beq l.length (P.cellsOf fd.type)) (match structS P g total fs ds (Nat.add o l.length) with | some r => some (l ++ r) | none => none) none
      | none => none) none)
/-- the cells of plain data: bools, numbers, strings, arrays of them -/
def plS (P : Program) : Nat → TypeId → DataW Unit → Option (List SV)
  | 0 => fun _ _ => none
  | f + 1 => fun t d => (match P.underlying t with
    | some .bool => (match d with | .lit (.bool b) => some [.bool b] | _ => none)
    | some (.int _) => (match d with | .lit (.int k n) => some [.int k n] | _ => none)
    | some .string => (match d with | .lit (.string bs) => some [.str bs.length (natOf bs)] | _ => none)
    | some (.array n e) => (match d with | .agg ds => cond (Nat.beq (P.cellsOf t) (Nat.mul n (P.cellsOf e))) (catS (P.cellsOf e) (ds.map (plS P f e))) none | _ => none)
    | some (.struct fs) => (match d with | .agg ds => structS P (plS P f) (P.cellsOf t) fs.toList ds 0 | _ => none)
    | _ => none)
theorem catS_vrs {ρ : Rho} {c : Nat} : ∀ (xs : List (Option (List SV))) (ys : List SV) (cs : List Value), catS c xs = some ys → cs.length = xs.length * c →
    (∀ i l, xs[i]? = some (some l) → VRs ρ l ((cs.drop (i * c)).take c)) → VRs ρ ys cs
  | [], ys, cs, h, hl, _ => by
    simp only [catS] at h; cases h
    have : cs = [] := by cases cs <;> simp at hl; rfl
    subst this; exact VRs.nil
  | x :: xs, ys, cs, h, hl, hx => by
    cases x with
    | none => simp [catS] at h
    | some l =>
      simp only [catS] at h
      cases hb : Nat.beq l.length c with
      | false => rw [hb] at h; cases h
      | true =>
        rw [hb, cond_true] at h
        cases hr : catS c xs with
        | none => rw [hr] at h; cases h
        | some r =>
          rw [hr] at h; cases h
          have h0 := hx 0 l rfl
          simp only [Nat.zero_mul, List.drop_zero] at h0
          rw [← List.take_append_drop c cs]
          refine VRs.append h0 (catS_vrs xs r (cs.drop c) hr (by simp [hl, Nat.add_mul]) fun i l' hi => ?_)
          have := hx (i + 1) l' (by simpa using hi)
          rw [List.drop_drop]
          rw [Nat.add_mul, Nat.one_mul] at this
          rw [Nat.add_comm]
          exact this
theorem structS_vrs {ρ : Rho} {g : TypeId → DataW Unit → Option (List SV)} {total : Nat} {cs : List Value} (hcs : cs.length = total) : ∀ (fs : List Field) (ds : List (DataW Unit)) (o : Nat) (xs : List SV), structS P g total fs ds o = some xs →
    (∀ (i : Nat) fd d l, fs[i]? = some fd → ds[i]? = some d → g fd.type d = some l → VRs ρ l ((cs.drop fd.offset).take (P.cellsOf fd.type))) → VRs ρ xs (cs.drop o)
  | [], ds, o, xs, h, _ => by
    simp only [structS] at h
    split at h
    · cases hb : Nat.beq o total with
      | false => rw [hb] at h; cases h
      | true =>
        rw [hb, cond_true] at h; cases h
        have := Nat.eq_of_beq_eq_true hb
        rw [List.drop_eq_nil_of_le (by omega)]
        exact VRs.nil
    · cases h
  | fd :: fs, ds, o, xs, h, hx => by
    simp only [structS] at h
    split at h
    · cases h
    · rename_i d ds
      cases hb : Nat.beq fd.offset o with
      | false => rw [hb] at h; cases h
      | true =>
        rw [hb, cond_true] at h
        have hoff := Nat.eq_of_beq_eq_true hb
        split at h
        · rename_i l hl
          cases hc : Nat.beq l.length (P.cellsOf fd.type) with
          | false => rw [hc] at h; cases h
          | true =>
            rw [hc, cond_true] at h
            have hlen := Nat.eq_of_beq_eq_true hc
            split at h
            · rename_i r hr
              cases h
              have h0 := hx 0 fd d l rfl rfl hl
              rw [hoff, ← hlen] at h0
              rw [← List.take_append_drop l.length (cs.drop o)]
              refine VRs.append h0 ?_
              rw [List.drop_drop]
              exact structS_vrs hcs fs ds _ r hr fun i fd' d' l' h1 h2 h3 => hx (i + 1) fd' d' l' (by simpa using h1) (by simpa using h2) h3
            · cases h
        · cases h
theorem plS_vrs {ρ : Rho} {w : World} : ∀ (f m : Nat) (t : TypeId) (cs : List Value) (d : DataW Unit) (p : List MemPlace) (xs : List SV),
    DataW.trod (fun _ => ()) P w 0 (fun _ => true) false m t cs = some (d, p) → plS P f t d = some xs → VRs ρ xs cs
  | 0, _, _, _, _, _, _, _, h => by simp [plS] at h
  | f + 1, m, t, cs, d, p, xs, ht, h => by
    simp only [plS] at h
    split at h
    · rename_i hu
      split at h
      · obtain ⟨b, rfl, e2⟩ := DataW.trod_bool hu ht
        simp only [Prod.mk.injEq, DataW.lit.injEq, Lit.bool.injEq] at e2
        obtain ⟨rfl, -⟩ := e2
        cases h
        exact VRs.cons (by simp [VR]) VRs.nil
      · cases h
    · rename_i k0 hu
      split at h
      · obtain ⟨z, rfl, e2, -⟩ := DataW.trod_int hu ht
        simp only [Prod.mk.injEq, DataW.lit.injEq, Lit.int.injEq] at e2
        obtain ⟨⟨rfl, rfl⟩, -⟩ := e2
        cases h
        exact VRs.cons (by simp [VR]) VRs.nil
      · cases h
    · rename_i hu
      split at h
      · obtain ⟨s, rfl, e2, -⟩ := DataW.trod_string hu ht
        simp only [Prod.mk.injEq, DataW.lit.injEq, Lit.string.injEq] at e2
        obtain ⟨rfl, -⟩ := e2
        cases h
        exact VRs.cons (by simp only [VR]; exact ⟨s, rfl, by rw [Array.length_toList]; rfl, rfl⟩) VRs.nil
      · cases h
    · rename_i n e hu
      obtain ⟨ys, m', rfl, e2, hl, hn, hel⟩ := DataW.trod_array hu ht
      simp only [Prod.mk.injEq] at e2
      obtain ⟨rfl, rfl⟩ := e2
      simp only at h
      cases hb : Nat.beq (P.cellsOf t) (Nat.mul n (P.cellsOf e)) with
      | false => rw [hb] at h; cases h
      | true =>
        rw [hb, cond_true] at h
        have hb' : P.cellsOf t = n * P.cellsOf e := Nat.eq_of_beq_eq_true hb
        refine catS_vrs _ xs cs h (by rw [hl, hb']; simp [hn]) fun i l hi => ?_
        simp only [List.map_map, List.getElem?_map, Option.map_eq_some_iff] at hi
        obtain ⟨y, hy, hyl⟩ := hi
        have hi' : i < n := by
          have := (List.getElem?_eq_some_iff.1 hy).1
          omega
        have := hel i hi'
        rw [hy] at this
        exact plS_vrs f m' e _ y.1 y.2 l (by rw [this]) hyl
    · rename_i fs hu
      obtain ⟨ys, m', rfl, e2, hl, hn, hel⟩ := DataW.trod_struct hu ht
      simp only [Prod.mk.injEq] at e2
      obtain ⟨rfl, rfl⟩ := e2
      simp only at h
      have := structS_vrs (ρ := ρ) (cs := cs) hl fs.toList _ 0 xs h fun i fd d l h1 h2 h3 => by
        rw [Array.getElem?_toList] at h1
        simp only [List.getElem?_map, Option.map_eq_some_iff] at h2
        obtain ⟨y, hy, rfl⟩ := h2
        have hq := hel i fd h1
        rw [hy] at hq
        exact plS_vrs f m' fd.type _ y.1 y.2 l (by rw [hq]) h3
      simpa using this
    · cases h
/-- a listed variable's reading -/
theorem laid_mem {w : World} : ∀ {l : List (String × DataW Unit)} {ps : List MemPlace}, DataW.LaidVars P w l ps → ∀ x ∈ l, ∃ g t cs fuel p,
    P.globalNamed x.1 = some g ∧ (P.globals[g]?).map (·.type) = some t ∧ w.var? P x.1 = some cs ∧ DataW.trod (fun _ => ()) P w 0 (fun _ => true) false fuel t cs.toList = some (x.2, p)
  | [], _, _, x, hx => by cases hx
  | y :: l, ps, h, x, hx => by
    obtain ⟨g, t, cs, fuel, p, q, h1, h2, h3, h4, h5, _⟩ := h
    rcases List.mem_cons.1 hx with rfl | hx
    · exact ⟨g, t, cs, fuel, p, h1, h2, h3, h4⟩
    · exact laid_mem h5 x hx
/-- **The block of a variable whose datum is plain.** -/
theorem laid_block {w : World} {l : List (String × DataW Unit)} (h : laidMet P l w) {n : String} {d : DataW Unit} (hx : (n, d) ∈ l) {g t f : Nat} {xs : List SV} (hg : P.globalNamed n = some g)
    (ht : (P.globals[g]?).map (·.type) = some t) (hp : plS P f t d = some xs) (ρ : Rho) (ty : Nat) : BR ρ 0 0 (.ro ty xs) w.heap[g]? := by
  obtain ⟨ps, hl, _⟩ := h
  obtain ⟨g', t', cs, fuel, p, h1, h2, h3, h4⟩ := laid_mem hl _ hx
  obtain rfl := Option.some.inj (hg.symm.trans h1)
  obtain rfl := Option.some.inj (ht.symm.trans h2)
  have hv := plS_vrs (ρ := ρ) f fuel t cs.toList d p xs h4 hp
  simp only [World.var?, hg, Option.bind_some] at h3
  split at h3
  · rename_i rc ty' fz hb
    cases h3
    refine ⟨cs, ty', fz, hb, fun i x hi => ?_⟩
    obtain ⟨v, hv1, hv2⟩ := VRs.get hv i x hi
    exact ⟨v, by rw [Nat.zero_add, ← Array.getElem?_toList]; exact hv1, hv2⟩
  · cases h3
end Go.Sh
namespace Go.Sh
variable [Opq]
open Go.RowKit (Below)
open Go.ChangeShapes Go.WideShapes Go.ChangeAt Go.RowKit

omit [Opq] in
/-- nothing is unknown -/
abbrev opqNone : Opq where
  val i := if i < 100 then .string .empty else if i < 200 then .slice none 0 0 else .int .i64 0
  str i h := ⟨.empty, by simp [h]⟩
  slc i h h' := ⟨none, 0, 0, by rw [if_neg (by omega), if_pos h']⟩
  int i h := ⟨.i64, 0, by rw [if_neg (by omega), if_neg (by omega)]⟩
  lenS i s h hs := by
    rw [if_pos h] at hs
    cases hs
    rw [if_neg (by omega), if_neg (by omega)]
    rfl
  lenL i a l c h h' hs := by
    rw [if_neg (by omega), if_pos h'] at hs
    cases hs
    rw [if_neg (by omega), if_neg (by omega)]
    rfl
/-- **A law without arguments: its lifted row, out of one contract.** -/
theorem closed_lifted {C : Checked} {f : FuncId} {fn : Func} {s : ChangeSpec} {t : TypeId} {laid : List (String × DataW Unit)} (os : Os) (started : os.Started) (H : Type) (enc : TypeId × Value → H)
    (own : ownKnob C.prog.godebug = none) (noInit : C.prog.inits.idxOf? f = none) (hp : fn.params = #[]) (hr : fn.resultTypes = #[t]) (ht : C.prog.underlying t = some .bool)
    (hv : s.vars = []) (hs : ∀ K : Type, s.fn K [] = { results := [.lit (.bool true)], args := [] })
    (witness : ∃ (w : World) (tape : Tape) (i : Input), w.os = os ∧ (w.forCall tape i).Shaped C.prog ∧ i.vars = [] ∧ Input.okWide C.prog (w.forCall tape i) .any w.heap.size f i ∧
      ((s.pre enc C.prog fn [] false (w.forCall tape i).memory i.args ∧ laidMetH C.prog laid (w.forCall tape i).memory) ∧ sizedMet enc C.prog fn (OpenSpec.ofChange s) false (w.forCall tape i).memory i.args) ∧
      ({} : Assume).holds C.prog (lone (Frame.enter C.prog f i.args .normal) [] (w.forCall tape i)))
    (calls : ∀ W : World, W.ShapedOpen C.prog → laidMetH C.prog laid W → Calls C.prog f #[] W (fun e w' => e = .returned (.bool true) ∧ RowKit.Below W.heap.size W w')) :
    ReturnsInHanded {} C os f .any (fun w args => (s.pre enc C.prog fn [] false w args ∧ laidMetH C.prog laid w) ∧ sizedMet enc C.prog fn (OpenSpec.ofChange s) false w args)
      (s.post enc C.prog fn false true false false) := by
  refine returnsInHanded_of_calls own started noInit witness ?_
  intro w tape i _ hsh _ _ hpre _
  obtain ⟨⟨⟨ds, gs, before, hw, hc⟩, hx⟩, _⟩ := hpre
  have hw' := DataW.Whole.of_heap (w' := w.forCall tape i) (by rfl) hw
  have hx' : laidMetH C.prog laid (w.forCall tape i) := hx.of_heap (by rfl)
  have hw'' := hw'
  obtain ⟨p, q, hA, hV, rfl, _, _⟩ := hw''
  rw [hp] at hA
  rw [hv] at hV
  obtain ⟨rfl, rfl⟩ := trodVars_none hV
  have hargs : i.args = #[] ∧ ds = [] ∧ p = [] := by
    cases hl : i.args.toList with
    | nil =>
      rw [hl] at hA
      cases ds with
      | nil => exact ⟨by rw [← Array.toArray_toList (xs := i.args), hl], rfl, hA⟩
      | cons d ds => exact hA.elim
    | cons v vs =>
      rw [hl] at hA
      exact hA.elim
  obtain ⟨ha, rfl, rfl⟩ := hargs
  rw [ha] at hw' ⊢
  refine (calls (w.forCall tape i) hsh hx').mono fun e W' ⟨he, hb⟩ => ?_
  subst he
  have hf : s.fn H ([] ++ []) = { results := [.lit (.bool true)], args := [] } := hs H
  refine ChangeSpec.post_blind ⟨[], [], [] ++ [], [], [], [], hw', ?_, ?_, ?_, hb.frame _, fun h => by cases h⟩
  · rw [hf, hr]
    exact trodAll_mk1 (shut_bool ht true)
  · rw [hf, hp]
    rfl
  · rw [hf, hv]
    rfl
theorem laidMetH_nil (P : Program) (w : World) : laidMetH P [] w :=
  ⟨[], by simp [DataW.LaidVars], List.nodup_nil, fun _ _ h => by cases h⟩
/-- a row that lists no variable -/
theorem lifted_nil {C : Checked} {os : Os} {f : FuncId} {A B : World → Array Value → Prop} {Q : World → Array Value → Value → World → Prop}
    (h : ReturnsInHanded {} C os f .any (fun w args => (A w args ∧ laidMetH C.prog [] w) ∧ B w args) Q) : ReturnsInHanded {} C os f .any (fun w args => A w args ∧ B w args) Q := by
  have e : (fun w args => (A w args ∧ laidMetH C.prog [] w) ∧ B w args) = fun w args => A w args ∧ B w args := by
    funext w args
    exact propext ⟨fun h => ⟨h.1.1, h.2⟩, fun h => ⟨⟨h.1, laidMetH_nil _ _⟩, h.2⟩⟩
  rwa [e] at h
/-- the variables stand in the blocks of their own numbers -/
theorem shape_size {P : Program} {W : World} (h : W.ShapedOpen P) (hz : ((List.range P.globals.size).all fun g => (((begin P (fun _ _ => 0) default).world.heap[g]?).bind Obj.row?).isSome) = true) {g : Nat} (hg : g < P.globals.size) : g < W.heap.size := by
  have h1 := List.all_eq_true.1 hz g (List.mem_range.2 hg)
  obtain ⟨⟨zero, t⟩, hq⟩ := Option.isSome_iff_exists.1 h1
  obtain ⟨cs, hh, _⟩ := h.1 g zero t hg hq
  exact (Array.getElem?_eq_some_iff.1 hh).1
/-- **The contract of a law without arguments, out of its row of calls.** -/
theorem calls_closed {P : Program} {G : Nat} {bs : List (Nat × Nat × List SV)} {laid : List (String × DataW Unit)} {f : FuncId} (hG : P.globals.size = G)
    (hrow : ∀ (ρ0 : Rho) (n0 : Nat), (∀ b, G ≤ b → ρ0 b = none) → KRowOk (LaidI (rowHp .e bs) ρ0 n0) P f ⟨G, [], [], .bool true, none⟩)
    (hbs : ∀ x ∈ bs, x.1 < G ∧ ∃ n d t m, (n, d) ∈ laid ∧ P.globalNamed n = some x.1 ∧ (P.globals[x.1]?).map (·.type) = some t ∧ plS P m t d = some x.2.2)
    (hz : ((List.range P.globals.size).all fun g => (((begin P (fun _ _ => 0) default).world.heap[g]?).bind Obj.row?).isSome) = true)
    {W : World} (hsh : W.ShapedOpen P) (hL : laidMet P laid W) : Calls P f #[] W (fun e w' => e = .returned (.bool true) ∧ RowKit.Below W.heap.size W w') := by
  let ρ0 : Rho := fun g => if g < G then some (g, 0, 0) else none
  have hat : ∀ b x, ρ0 b = some x → b < G ∧ x = (b, 0, 0) := fun b x h => by
    simp only [ρ0] at h
    split at h
    · rename_i hb; cases h; exact ⟨hb, rfl⟩
    · cases h
  have hin : ∀ b, b < G → ρ0 b = some (b, 0, 0) := fun b h => by simp only [ρ0]; rw [if_pos h]
  refine (start_of_row (w := W) (hrow ρ0 W.heap.size fun b hb => (by simp only [ρ0]; rw [if_neg (by omega)])) rfl rfl rfl ?_ ?_ ?_ ?_).mono fun e w' h => ?_
  · intro g hg
    rw [hG] at hg
    exact ⟨0, hin g hg⟩
  · intro b hb
    have hb' : G ≤ b := hb
    simp only [ρ0]
    rw [if_neg (by omega)]
  · intro b hn
    rcases rowHp_get .e bs b with h | h | ⟨x, hx, rfl, _⟩
    · rw [h, Hp.get_e] at hn; cases hn
    · rw [h] at hn; cases hn
    · exact ⟨_, hin x.1 (hbs x hx).1⟩
  · intro b q base e h
    obtain ⟨hb, hx⟩ := hat b _ h
    cases hx
    refine ⟨shape_size hsh hz (by rw [hG]; exact hb), ?_⟩
    rcases rowHp_get .e bs b with h | h | ⟨x, hx, rfl, h⟩
    · rw [h, Hp.get_e]; simp [BR]
    · rw [h]; simp [BR]
    · rw [h]
      obtain ⟨_, n, d, t, m, h1, h2, h3, h4⟩ := hbs x hx
      exact laid_block hL h1 h2 h3 h4 ρ0 _
  · obtain ⟨v, rfl, hv, hB⟩ := h
    simp only [VR] at hv
    subst hv
    exact ⟨rfl, hB⟩
theorem rowHp_ro {bs : List (Nat × Nat × List SV)} (b : Nat) : writable ((rowHp .e bs).get b) = false := by
  rcases rowHp_get .e bs b with h | h | ⟨x, _, _, h⟩
  · rw [h, Hp.get_e]; rfl
  · rw [h]; rfl
  · rw [h]; rfl
end Go.Sh
