/- Part of a proof that a closed law answers true: the evaluator of the first text is sound; this text is one step of it. No condition. -/
import Derived.Test.YtbnplpeodjknaaaGreatDoorShZ
import Derived.Laws.Externs
import Derived.Lib.MakeNoZero
set_option linter.unusedSectionVars false
set_option linter.unusedSimpArgs false
set_option linter.unusedVariables false
namespace Go.Sh
variable [Opq]
open Go.RowKit (Below)
variable {I : Rho → World → Prop}
variable {P : Program}

theorem idxB_eq (c : UInt8) : ∀ (l : List UInt8) (i : Nat), idxB c.toNat l.length (natOf l) i = (match l.findIdx? (· == c) with | some k => Int.ofNat (i + k) | none => -1)
  | [], i => by simp [idxB]
  | b :: l, i => by
    have m1 : Nat.mod (natOf (b :: l)) 256 = b.toNat := by rw [natOf_cons]; have := b.toNat_lt; show (b.toNat + 256 * natOf l) % 256 = _; omega
    have d1 : Nat.div (natOf (b :: l)) 256 = natOf l := by rw [natOf_cons]; have := b.toNat_lt; show (b.toNat + 256 * natOf l) / 256 = _; omega
    simp only [List.length_cons, idxB, m1, d1, List.findIdx?_cons]
    by_cases h : b = c
    · subst h
      have : Nat.beq b.toNat b.toNat = true := Nat.beq_refl _
      rw [this]; simp
    · have hb : Nat.beq b.toNat c.toNat = false := by
        cases hq : Nat.beq b.toNat c.toNat with
        | false => rfl
        | true => exact absurd (UInt8.toNat_inj.1 (Nat.eq_of_beq_eq_true hq)) h
      have hb2 : (b == c) = false := by rw [beq_eq_false_iff_ne]; exact h
      rw [hb, cond_false, idxB_eq c l, hb2]
      cases hf : l.findIdx? (· == c) with
      | none => rfl
      | some k => simp only [Option.map_some, Nat.succ_eq_add_one]; congr 1; omega

/-- the first place in a list at which a test holds, by places -/
theorem find_range {α : Type} (p : α → Bool) : ∀ (l : List α) (q : Nat → Bool) (_ : ∀ i (h : i < l.length), q i = p l[i]), (List.range l.length).find? q = l.findIdx? p
  | [], q, _ => rfl
  | a :: l, q, h => by
    rw [List.length_cons, List.range_succ_eq_map, List.find?_cons, List.findIdx?_cons]
    have h0 : q 0 = p a := h 0 (by simp)
    rw [h0]
    cases hp : p a with
    | true => simp
    | false =>
      have ih := find_range p l (fun i => q (i + 1)) (fun i hi => h (i + 1) (by simpa using hi))
      simp only [List.find?_map, Bool.false_eq_true, if_false]
      rw [← ih]
      congr 1

theorem firstIdx_eq (s : ByteArray) (c : UInt8) : firstIdx s c = idxB c.toNat s.size (natOf s.data.toList) 0 := by
  have hs : s.size = s.data.toList.length := by rw [Array.length_toList]; rfl
  rw [hs, idxB_eq, firstIdx]
  have : (List.range s.size).find? (fun i => s[i]! == c) = s.data.toList.findIdx? (· == c) := by
    rw [hs]
    refine find_range (· == c) s.data.toList _ fun i hi => ?_
    have hi' : i < s.size := by rw [hs]; exact hi
    rw [getElem!_pos s i hi']
    rfl
  rw [this]
  cases s.data.toList.findIdx? (· == c) with
  | none => rfl
  | some k => simp

theorem QV.same {ρ : Rho} {N : Bound I} {s : St} {w : World} (H : Rel ρ N s w) {kV kP : KV} {x : SV} {v : Value} (hv : VR ρ x v) (hk : kV x s = true) : QV ρ s w N kV kP (.returned v) w :=
  ⟨ρ, s, x, hv, H, Ext.refl ρ s, RowKit.Below.refl N w, hk⟩

/-- a row of the table, given the extern's own function -/
structure IsExt (P : Program) (f : FuncId) (e : Array Value → Sem Value) : Prop where
  ex : ∃ fn, P.funcs[f]? = some fn ∧ (fn.name == "runtime.NumGoroutine") = false ∧ fn.body.isNone = true ∧ Extern.findNext fn = none ∧ Extern.find fn = some e
theorem IsExt.run {f : FuncId} {e : Array Value → Sem Value} (h : IsExt P f e) (args : Array Value) (w : World) :
    (callFunc f args).run P w = ((e args).run P w).andThen fun v w' => .ok (.value v) w' := by
  obtain ⟨fn, h1, h2, h3, h4, h5⟩ := h.ex
  exact run_callFunc_extern h1 h2 h3 h4 h5 args w

theorem row_indexByteStr {f : FuncId} (he : IsExt P f Extern.BytealgIndexByte.indexByte) : RowOk I P f .indexByteStr := by
  intro args s kV kP h ρ N w args' H _ hargs
  unfold extS at h
  split at h
  all_goals first | (rename_i heq; cases heq; done) | skip
  case h_1 l n c _ =>
    obtain ⟨v1, r1, hv1, hr1, rfl⟩ := VRs.cons_inv hargs
    obtain ⟨v2, r2, hv2, hr2, rfl⟩ := VRs.cons_inv hr1
    obtain rfl := VRs.nil_iff.1 hr2
    simp only [VR] at hv1 hv2
    obtain ⟨b, rfl, hb1, hb2⟩ := hv1
    subst hv2
    cases hc : Nat.ble c 255 with
    | false => rw [hc, cond_false] at h; simp [failB] at h
    | true =>
      rw [hc, cond_true] at h
      have hc' : c ≤ 255 := Nat.le_of_ble_eq_true hc
      refine ⟨.int .i64 (firstIdx b (Int.toNat (.ofNat c)).toUInt8), w, ?_, QV.same H (x := .int .i64 (idxB c l n 0)) ?_ h⟩
      · rw [he.run]
        have := run_indexByte_string (P := P) b (.ofNat c) w
        rw [show ([Value.string b, Value.int .u8 (Int.ofNat c)].toArray) = #[.string b, .int .u8 (Int.ofNat c)] from rfl, this]
        rfl
      · simp only [VR]
        rw [firstIdx_eq, hb1, hb2]
        congr 3
        show (Nat.toUInt8 c).toNat = c
        simp [Nat.toUInt8]; omega
  all_goals simp_all [failB]

theorem coolB_cool {ρ : Rho} {N : Bound I} {s : St} {w : World} (H : Rel ρ N s w) {b r base e o : Nat} (hb : ρ b = some (r, base, e)) (hc : coolB o (s.h.get b) = true) :
    writable (s.h.get b) = true ∧ ∃ ty n, w.shape? r = some (ty, n) ∧ w.frozen? ⟨r, base + o, none⟩ = false ∧ w.frozen? ⟨r, n, none⟩ = false := by
  have hl := H.live _ _ _ _ hb
  cases hg : s.h.get b with
  | cells ty cs =>
    rw [hg] at hl
    obtain ⟨rc, ho, _⟩ := hl
    exact ⟨rfl, ty, rc.size, by simp [World.shape?, ho], frozen_at ho _ (by simp), frozen_at ho _ (by simp)⟩
  | opn ty cs ub fz st =>
    rw [hg] at hl hc
    obtain ⟨rc, fz', ho, h1, h2, h3, h4, h5, h6⟩ := hl
    simp only [coolB, Bool.and_eq_true, Bool.not_eq_true'] at hc
    obtain ⟨⟨hst, hfo⟩, hfc⟩ := hc
    have hfo := Nat.le_of_ble_eq_true hfo
    have hfc := Nat.le_of_ble_eq_true hfc
    have h7 := h6 hst
    refine ⟨rfl, ty, rc.size, by simp [World.shape?, ho], frozen_at ho _ (by omega), frozen_at ho _ (by omega)⟩
  | none => rw [hg] at hc; simp [coolB] at hc
  | ro ty cs => rw [hg] at hc; simp [coolB] at hc
  | map es c => rw [hg] at hc; simp [coolB] at hc
  | siter l n p => rw [hg] at hc; simp [coolB] at hc
  | lp _ _ _ _ _ _ _ _ => rw [hg] at hc; simp [coolB] at hc
  | dm => rw [hg] at hc; simp [coolB] at hc
  | mapp _ => rw [hg] at hc; simp [coolB] at hc
  | mapx _ => rw [hg] at hc; simp [coolB] at hc

theorem atS_vr {ρ : Rho} {x : SV} {v : Value} {b o l : Nat} (h : atS x = some (b, o, l)) (hv : VR ρ x v) : ∃ r base e c, ρ b = some (r, base, e) ∧ v = .slice (some ⟨r, base + o, none⟩) l c := by
  cases x <;> simp [atS] at h
  · obtain ⟨rfl, rfl, rfl⟩ := h
    simp only [VR] at hv
    obtain ⟨r, base, e, hb, rfl⟩ := hv
    exact ⟨r, base, e, _, hb, rfl⟩
  · obtain ⟨rfl, rfl, rfl⟩ := h
    simp only [VR] at hv
    obtain ⟨r, base, e, cap, hb, _, _, rfl⟩ := hv
    exact ⟨r, base, e, cap, hb, rfl⟩

theorem beq_false {a b : Nat} (h : a ≠ b) : Nat.beq a b = false := by
  cases hq : Nat.beq a b with
  | false => rfl
  | true => exact absurd (Nat.eq_of_beq_eq_true hq) h
theorem ov_match {motive : Array Value → Sort _} (a : Option Addr) (la ca : Nat) (b : Option Addr) (lb cb : Nat) (h1 h2) :
    @Extern.SlicesOverlaps.overlaps.match_4 motive #[Value.slice a la ca, Value.slice b lb cb] h1 h2 = h1 a la ca b lb cb := rfl
theorem row_overlaps {f : FuncId} {ps rs : Array TypeId} {t e : TypeId} {sz : Nat} (he : IsExt P f (Extern.SlicesOverlaps.overlaps ps rs)) (ht : ps[0]? = some t) (hu : P.underlying t = some (.slice e)) (hz : size? P e = some sz) :
    RowOk I P f (.overlaps sz) := by
  have hsz : ∀ w, (sizeOf e).run P w = .ok sz w := fun w => run_sizeOf hz w
  have hul : ∀ w, (underlying t).run P w = .ok (.slice e) w := fun w => run_underlying hu w
  intro args s kV kP h ρ N w args' H _ hargs
  have two : ∃ x y, args = [x, y] := by
    unfold extS at h
    split at h <;> first | (rename_i heq; cases heq; done) | exact ⟨_, _, rfl⟩ | simp [failB] at h
  obtain ⟨x, y, rfl⟩ := two
  obtain ⟨v1, r1, hv1, hr1, rfl⟩ := VRs.cons_inv hargs
  obtain ⟨v2, r2, hv2, hr2, rfl⟩ := VRs.cons_inv hr1
  obtain rfl := VRs.nil_iff.1 hr2
  have arr : [v1, v2].toArray = #[v1, v2] := rfl
  -- what the entry gives at two slices
  have fin : ∀ (r : Bool), ((Extern.SlicesOverlaps.overlaps ps rs #[v1, v2]).run P w = .ok (.bool r) w) → kV (.bool r) s = true →
      ∃ v w', (callFunc f [v1, v2].toArray).run P w = .ok (.value v) w' ∧ QV ρ s w N kV kP (.returned v) w' := by
    intro r hr hk
    refine ⟨.bool r, w, ?_, QV.same H (x := .bool r) (by simp [VR]) hk⟩
    rw [he.run, arr, hr]; rfl
  simp only [extS] at h
  have nilL : ∀ lb cb a, v1 = .slice none 0 0 → v2 = .slice a lb cb → (Extern.SlicesOverlaps.overlaps ps rs #[v1, v2]).run P w = .ok (.bool false) w := by
    rintro lb cb a rfl rfl
    unfold Extern.SlicesOverlaps.overlaps; rw [ov_match]; simp [ht, hul, hsz]
  have nilR : ∀ a la ca, v1 = .slice (some a) la ca → v2 = .slice none 0 0 → (Extern.SlicesOverlaps.overlaps ps rs #[v1, v2]).run P w = .ok (.bool false) w := by
    rintro a la ca rfl rfl
    unfold Extern.SlicesOverlaps.overlaps; rw [ov_match]; simp [ht, hul, hsz]
  split at h
  · -- x is nil
    simp only [VR] at hv1
    split at h
    · simp only [VR] at hv2
      exact fin false (nilL _ _ _ hv1 hv2) h
    · cases hy : atS y with
      | none => rw [hy] at h; simp [failB] at h
      | some q =>
        obtain ⟨b', o', l'⟩ := q
        rw [hy] at h
        obtain ⟨r, base, e', c, hb, hv⟩ := atS_vr hy hv2
        exact fin false (nilL _ _ _ hv1 hv) h
  · cases hx : atS x with
    | none => rw [hx] at h; simp [failB] at h
    | some q =>
      obtain ⟨b, o, l⟩ := q
      obtain ⟨r, base, e1, c1, hb, hv⟩ := atS_vr hx hv1
      rw [hx] at h
      simp only at h
      split at h
      · simp only [VR] at hv2
        exact fin false (nilR _ _ _ hv hv2) h
      · cases hy : atS y with
        | none => rw [hy] at h; simp [failB] at h
        | some q =>
          obtain ⟨b', o', l'⟩ := q
          obtain ⟨r', base', e2, c2, hb', hv'⟩ := atS_vr hy hv2
          rw [hy] at h
          simp only at h
          cases hc : (Nat.beq b b' || Nat.beq l 0 || Nat.beq l' 0 || (coolB o (s.h.get b) && coolB o' (s.h.get b'))) with
          | false => rw [hc] at h; simp [failB] at h
          | true =>
            rw [hc, cond_true] at h
            refine fin _ ?_ h
            subst hv hv'
            by_cases h0 : l = 0 ∨ l' = 0 ∨ sz = 0
            · have : ovl sz b o l b' o' l' = false := by
                unfold ovl
                have : (Nat.beq l 0 || Nat.beq l' 0 || Nat.beq sz 0) = true := by
                  rcases h0 with rfl | rfl | rfl <;> simp
                rw [this]; rfl
              rw [this]
              unfold Extern.SlicesOverlaps.overlaps; rw [ov_match]; simp [ht, hul, hsz, h0]
            · have hov : ovl sz b o l b' o' l' = (Nat.beq b b' && (decide (o < o' + l' * sz) && decide (o' < o + l * sz))) := by
                unfold ovl
                have z : (Nat.beq l 0 || Nat.beq l' 0 || Nat.beq sz 0) = false := by
                  have h1 : Nat.beq l 0 = false := beq_false fun e0 => h0 (Or.inl e0)
                  have h2 : Nat.beq l' 0 = false := beq_false fun e0 => h0 (Or.inr (Or.inl e0))
                  have h3 : Nat.beq sz 0 = false := beq_false fun e0 => h0 (Or.inr (Or.inr e0))
                  rw [h1, h2, h3]; rfl
                have ble : ∀ a b : Nat, Nat.ble (a + 1) b = decide (a < b) := fun a b => by
                  cases hq : Nat.ble (a + 1) b with
                  | true => exact (decide_eq_true (Nat.le_of_ble_eq_true hq)).symm
                  | false => exact (decide_eq_false fun hlt => by rw [Nat.ble_eq_true_of_le hlt] at hq; cases hq).symm
                rw [z, cond_false, ble, ble, Bool.and_assoc]
              rw [hov]
              by_cases hbb : b = b'
              · subst hbb
                rw [hb] at hb'
                obtain ⟨rfl, rfl, rfl⟩ : r = r' ∧ base = base' ∧ e1 = e2 := by injection hb' with hb'; injection hb' with p q; injection q with q1 q2; exact ⟨p, q1, q2⟩
                have e1 : decide (base + o < base + o' + l' * sz) = decide (o < o' + l' * sz) := by
                  have : (base + o < base + o' + l' * sz) ↔ (o < o' + l' * sz) := by omega
                  exact decide_eq_decide.2 this
                have e2 : decide (base + o' < base + o + l * sz) = decide (o' < o + l * sz) := by
                  have : (base + o' < base + o + l * sz) ↔ (o' < o + l * sz) := by omega
                  exact decide_eq_decide.2 this
                unfold Extern.SlicesOverlaps.overlaps; rw [ov_match]; simp [ht, hul, hsz, h0, e1, e2]
              · have hbf : Nat.beq b b' = false := beq_false hbb
                have h1 : Nat.beq l 0 = false := beq_false fun e0 => h0 (Or.inl e0)
                have h2 : Nat.beq l' 0 = false := beq_false fun e0 => h0 (Or.inr (Or.inl e0))
                rw [hbf, h1, h2] at hc
                simp only [Bool.false_or, Bool.and_eq_true] at hc
                obtain ⟨n1, ty1, m1, s1, f1, g1⟩ := coolB_cool H hb hc.1
                obtain ⟨n2, ty2, m2, s2, f2, g2⟩ := coolB_cool H hb' hc.2
                have hrr : r ≠ r' := by
                  intro er
                  subst er
                  exact hbb (H.inj _ _ _ _ _ _ _ hb hb' n1 (isNone_of_writable n2))
                rw [hbf]
                unfold Extern.SlicesOverlaps.overlaps; rw [ov_match]; simp [ht, hul, hsz, h0, hrr, f1, f2, g1, g2, noView, viewAt, s1, s2, mayBeOne, stringish]

theorem row_same {f : FuncId} (he : IsExt P f Extern.AbiNoEscape.same) : RowOk I P f .same := by
  intro args s kV kP h ρ N w args' H _ hargs
  unfold extS at h
  split at h
  all_goals first | (rename_i heq; cases heq; done) | skip
  case h_5 x _ =>
    obtain ⟨v1, r1, hv1, hr1, rfl⟩ := VRs.cons_inv hargs
    obtain rfl := VRs.nil_iff.1 hr1
    refine ⟨v1, w, ?_, QV.same H hv1 h⟩
    rw [he.run]
    rfl
  all_goals simp_all [failB]
theorem row_makeNoZero {f : FuncId} {ps : Array TypeId} {t e : TypeId} (he : IsExt P f (Extern.BytealgMakeNoZero.makeNoZero ps #[t])) (ht : P.underlying t = some (.slice e)) : RowOk I P f (.makeNoZero e) := by
  intro args s kV kP h ρ N w args' H _ hargs
  unfold extS at h
  split at h
  all_goals first | (rename_i heq; cases heq; done) | skip
  case h_7 e' n heq =>
    cases heq
    obtain ⟨v1, r1, hv1, hr1, rfl⟩ := VRs.cons_inv hargs
    obtain rfl := VRs.nil_iff.1 hr1
    simp only [VR] at hv1
    subst hv1
    cases hc : Nat.ble n 1048576 with
    | false => rw [hc, cond_false] at h; simp [failB] at h
    | true =>
      rw [hc, cond_true] at h
      have hn : n ≤ 1048576 := Nat.le_of_ble_eq_true hc
      obtain ⟨cs, hrun, hle, _⟩ := Go.Lib.run_makeNoZero (P := P) w ps t e ht n (by omega)
      have hBR : BR ρ 0 cs.size (.opn e (List.replicate n .junk) big 0 false) (some (.cells cs e (0, 0))) := by
        refine ⟨cs, (0, 0), rfl, rfl, by simpa using hle, fun k => absurd k (Nat.lt_irrefl _), ?_, fun i _ _ k => absurd k.2 (Nat.not_lt_zero _), fun _ => Nat.zero_le _⟩
        intro i x hx
        obtain ⟨hi, hx'⟩ := List.getElem?_eq_some_iff.1 hx
        simp only [List.length_replicate] at hi
        simp only [List.getElem_replicate] at hx'
        subst hx'
        exact ⟨cs[i]'(by omega), by rw [Nat.zero_add]; exact Array.getElem?_eq_getElem (by omega), by simp [VR]⟩
      have hnew := (H.drew.drew).new hBR
      refine ⟨_, _, by rw [he.run]; rw [show ([Value.int .i64 (Int.ofNat n)].toArray) = #[.int .i64 (n : Int)] from rfl, hrun]; rfl, ρ.add s.nx (w.heap.size, 0, cs.size), _, .slo s.nx 0 n 1, ?_, hnew, Ext.new H _ _, (Below.drawn _).trans (Below.newDrew (w := w.drew) H.size _), h⟩
      simp only [VR]
      exact ⟨w.heap.size, 0, cs.size, cs.size, Rho.add_self _ _ _, hle, by omega, rfl⟩
  all_goals simp_all [failB]
end Go.Sh
