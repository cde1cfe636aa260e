/- Part of a proof that a closed law answers true: the evaluator of the first text is sound; this text is one step of it. No condition. -/
import Derived.Test.YtbnplpeodjknaaaGreatDoorShKn
import Derived.OpenShut
import Derived.LaidLaws
set_option linter.unusedSectionVars false
set_option linter.unusedSimpArgs false
set_option linter.unusedVariables false
namespace Go.Sh
variable [Opq]
open Go.RowKit (Below)
variable {P : Program}

/-! ## what a variable's datum says of its cells -/
def catS (c : Nat) : List (Option (List SV)) → Option (List SV)
  | [] => some []
  | x :: xs => (match x with
    | some l => cond (Nat.beq l.length c) (match catS c xs with | some r => some (l ++ r) | none => none) none
    | none => none)
def structS (P : Program) (g : TypeId → DataW Unit → Option (List SV)) (total : Nat) : List Field → List (DataW Unit) → Nat → Option (List SV)
  | [] => fun ds o => (match ds with | [] => cond (Nat.beq o total) (some []) none | _ :: _ => none)
  | fd :: fs => fun ds o => (match ds with
    | [] => none
    | d :: ds => cond (Nat.beq fd.offset o) (match g fd.type d with
      | some l => cond (Nat.beq l.length (P.cellsOf fd.type)) (match structS P g total fs ds (Nat.add o l.length) with | some r => some (l ++ r) | none => none) none
      | none => none) none)
/-- the cells of plain data: bools, numbers, strings, arrays of them -/
def plS (P : Program) : Nat → TypeId → DataW Unit → Option (List SV)
  | 0 => fun _ _ => none
  | f + 1 => fun t d => (match P.underlying t with
    | some .bool => (match d with | .lit (.bool b) => some [.bool b] | _ => none)
    | some (.int _) => (match d with | .lit (.int k n) => some [.int k n] | _ => none)
    | some .string => (match d with | .lit (.string bs) => some [.str bs.length (natOf bs)] | _ => none)
    | some (.array n e) => (match d with | .agg ds => cond (Nat.beq (P.cellsOf t) (Nat.mul n (P.cellsOf e))) (catS (P.cellsOf e) (ds.map (plS P f e))) none | _ => none)
    | some (.struct fs) => (match d with | .agg ds => structS P (plS P f) (P.cellsOf t) fs.toList ds 0 | _ => none)
    | _ => none)
theorem catS_vrs {ρ : Rho} {c : Nat} : ∀ (xs : List (Option (List SV))) (ys : List SV) (cs : List Value), catS c xs = some ys → cs.length = xs.length * c →
    (∀ i l, xs[i]? = some (some l) → VRs ρ l ((cs.drop (i * c)).take c)) → VRs ρ ys cs
  | [], ys, cs, h, hl, _ => by
    simp only [catS] at h; cases h
    have : cs = [] := by cases cs <;> simp at hl; rfl
    subst this; exact VRs.nil
  | x :: xs, ys, cs, h, hl, hx => by
    cases x with
    | none => simp [catS] at h
    | some l =>
      simp only [catS] at h
      cases hb : Nat.beq l.length c with
      | false => rw [hb] at h; cases h
      | true =>
        rw [hb, cond_true] at h
        cases hr : catS c xs with
        | none => rw [hr] at h; cases h
        | some r =>
          rw [hr] at h; cases h
          have h0 := hx 0 l rfl
          simp only [Nat.zero_mul, List.drop_zero] at h0
          rw [← List.take_append_drop c cs]
          refine VRs.append h0 (catS_vrs xs r (cs.drop c) hr (by simp [hl, Nat.add_mul]) fun i l' hi => ?_)
          have := hx (i + 1) l' (by simpa using hi)
          rw [List.drop_drop]
          rw [Nat.add_mul, Nat.one_mul] at this
          rw [Nat.add_comm]
          exact this
theorem structS_vrs {ρ : Rho} {g : TypeId → DataW Unit → Option (List SV)} {total : Nat} {cs : List Value} (hcs : cs.length = total) : ∀ (fs : List Field) (ds : List (DataW Unit)) (o : Nat) (xs : List SV), structS P g total fs ds o = some xs →
    (∀ (i : Nat) fd d l, fs[i]? = some fd → ds[i]? = some d → g fd.type d = some l → VRs ρ l ((cs.drop fd.offset).take (P.cellsOf fd.type))) → VRs ρ xs (cs.drop o)
  | [], ds, o, xs, h, _ => by
    simp only [structS] at h
    split at h
    · cases hb : Nat.beq o total with
      | false => rw [hb] at h; cases h
      | true =>
        rw [hb, cond_true] at h; cases h
        have := Nat.eq_of_beq_eq_true hb
        rw [List.drop_eq_nil_of_le (by omega)]
        exact VRs.nil
    · cases h
  | fd :: fs, ds, o, xs, h, hx => by
    simp only [structS] at h
    split at h
    · cases h
    · rename_i d ds
      cases hb : Nat.beq fd.offset o with
      | false => rw [hb] at h; cases h
      | true =>
        rw [hb, cond_true] at h
        have hoff := Nat.eq_of_beq_eq_true hb
        split at h
        · rename_i l hl
          cases hc : Nat.beq l.length (P.cellsOf fd.type) with
          | false => rw [hc] at h; cases h
          | true =>
            rw [hc, cond_true] at h
            have hlen := Nat.eq_of_beq_eq_true hc
            split at h
            · rename_i r hr
              cases h
              have h0 := hx 0 fd d l rfl rfl hl
              rw [hoff, ← hlen] at h0
              rw [← List.take_append_drop l.length (cs.drop o)]
              refine VRs.append h0 ?_
              rw [List.drop_drop]
              exact structS_vrs hcs fs ds _ r hr fun i fd' d' l' h1 h2 h3 => hx (i + 1) fd' d' l' (by simpa using h1) (by simpa using h2) h3
            · cases h
        · cases h
theorem plS_vrs {ρ : Rho} {w : World} : ∀ (f m : Nat) (t : TypeId) (cs : List Value) (d : DataW Unit) (p : List MemPlace) (xs : List SV),
    DataW.trod (fun _ => ()) P w 0 (fun _ => true) false m t cs = some (d, p) → plS P f t d = some xs → VRs ρ xs cs
  | 0, _, _, _, _, _, _, _, h => by simp [plS] at h
  | f + 1, m, t, cs, d, p, xs, ht, h => by
    simp only [plS] at h
    split at h
    · rename_i hu
      split at h
      · obtain ⟨b, rfl, e2⟩ := DataW.trod_bool hu ht
        simp only [Prod.mk.injEq, DataW.lit.injEq, Lit.bool.injEq] at e2
        obtain ⟨rfl, -⟩ := e2
        cases h
        exact VRs.cons (by simp [VR]) VRs.nil
      · cases h
    · rename_i k0 hu
      split at h
      · obtain ⟨z, rfl, e2, -⟩ := DataW.trod_int hu ht
        simp only [Prod.mk.injEq, DataW.lit.injEq, Lit.int.injEq] at e2
        obtain ⟨⟨rfl, rfl⟩, -⟩ := e2
        cases h
        exact VRs.cons (by simp [VR]) VRs.nil
      · cases h
    · rename_i hu
      split at h
      · obtain ⟨s, rfl, e2, -⟩ := DataW.trod_string hu ht
        simp only [Prod.mk.injEq, DataW.lit.injEq, Lit.string.injEq] at e2
        obtain ⟨rfl, -⟩ := e2
        cases h
        exact VRs.cons (by simp only [VR]; exact ⟨s, rfl, by rw [Array.length_toList]; rfl, rfl⟩) VRs.nil
      · cases h
    · rename_i n e hu
      obtain ⟨ys, m', rfl, e2, hl, hn, hel⟩ := DataW.trod_array hu ht
      simp only [Prod.mk.injEq] at e2
      obtain ⟨rfl, rfl⟩ := e2
      simp only at h
      cases hb : Nat.beq (P.cellsOf t) (Nat.mul n (P.cellsOf e)) with
      | false => rw [hb] at h; cases h
      | true =>
        rw [hb, cond_true] at h
        have hb' : P.cellsOf t = n * P.cellsOf e := Nat.eq_of_beq_eq_true hb
        refine catS_vrs _ xs cs h (by rw [hl, hb']; simp [hn]) fun i l hi => ?_
        simp only [List.map_map, List.getElem?_map, Option.map_eq_some_iff] at hi
        obtain ⟨y, hy, hyl⟩ := hi
        have hi' : i < n := by
          have := (List.getElem?_eq_some_iff.1 hy).1
          omega
        have := hel i hi'
        rw [hy] at this
        exact plS_vrs f m' e _ y.1 y.2 l (by rw [this]) hyl
    · rename_i fs hu
      obtain ⟨ys, m', rfl, e2, hl, hn, hel⟩ := DataW.trod_struct hu ht
      simp only [Prod.mk.injEq] at e2
      obtain ⟨rfl, rfl⟩ := e2
      simp only at h
      have := structS_vrs (ρ := ρ) (cs := cs) hl fs.toList _ 0 xs h fun i fd d l h1 h2 h3 => by
        rw [Array.getElem?_toList] at h1
        simp only [List.getElem?_map, Option.map_eq_some_iff] at h2
        obtain ⟨y, hy, rfl⟩ := h2
        have hq := hel i fd h1
        rw [hy] at hq
        exact plS_vrs f m' fd.type _ y.1 y.2 l (by rw [hq]) h3
      simpa using this
    · cases h
/-- a listed variable's reading -/
theorem laid_mem {w : World} : ∀ {l : List (String × DataW Unit)} {ps : List MemPlace}, DataW.LaidVars P w l ps → ∀ x ∈ l, ∃ g t cs fuel p,
    P.globalNamed x.1 = some g ∧ (P.globals[g]?).map (·.type) = some t ∧ w.var? P x.1 = some cs ∧ DataW.trod (fun _ => ()) P w 0 (fun _ => true) false fuel t cs.toList = some (x.2, p)
  | [], _, _, x, hx => by cases hx
  | y :: l, ps, h, x, hx => by
    obtain ⟨g, t, cs, fuel, p, q, h1, h2, h3, h4, h5, _⟩ := h
    rcases List.mem_cons.1 hx with rfl | hx
    · exact ⟨g, t, cs, fuel, p, h1, h2, h3, h4⟩
    · exact laid_mem h5 x hx
/-- **The block of a variable whose datum is plain.** -/
theorem laid_block {w : World} {l : List (String × DataW Unit)} (h : laidMet P l w) {n : String} {d : DataW Unit} (hx : (n, d) ∈ l) {g t f : Nat} {xs : List SV} (hg : P.globalNamed n = some g)
    (ht : (P.globals[g]?).map (·.type) = some t) (hp : plS P f t d = some xs) (ρ : Rho) (ty : Nat) : BR ρ 0 0 (.ro ty xs) w.heap[g]? := by
  obtain ⟨ps, hl, _⟩ := h
  obtain ⟨g', t', cs, fuel, p, h1, h2, h3, h4⟩ := laid_mem hl _ hx
  obtain rfl := Option.some.inj (hg.symm.trans h1)
  obtain rfl := Option.some.inj (ht.symm.trans h2)
  have hv := plS_vrs (ρ := ρ) f fuel t cs.toList d p xs h4 hp
  simp only [World.var?, hg, Option.bind_some] at h3
  split at h3
  · rename_i rc ty' fz hb
    cases h3
    refine ⟨cs, ty', fz, hb, fun i x hi => ?_⟩
    obtain ⟨v, hv1, hv2⟩ := VRs.get hv i x hi
    exact ⟨v, by rw [Nat.zero_add, ← Array.getElem?_toList]; exact hv1, hv2⟩
  · cases h3
end Go.Sh
