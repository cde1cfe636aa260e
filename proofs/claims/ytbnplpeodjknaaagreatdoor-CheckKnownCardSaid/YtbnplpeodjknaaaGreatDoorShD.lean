/- Part of a proof that a closed law answers true: the evaluator of the first text is sound; this text is one step of it. No condition. -/
import Derived.Test.YtbnplpeodjknaaaGreatDoorShC
import Derived.Laws.Sem
set_option linter.unusedSectionVars false
set_option linter.unusedSimpArgs false
set_option linter.unusedVariables false
namespace Go.Sh
variable [Opq]
open Go.RowKit (Below)
variable {I : Rho → World → Prop}

/-! ## loads and stores of the model, at a block that is known -/
theorem add_addr (r o i : Nat) : (⟨r, o, none⟩ : Addr).add i = ⟨r, o + i, none⟩ := by
  unfold Addr.add
  split
  · rename_i h; subst h; rfl
  · rfl
theorem cell_at {w : World} {r ty : Nat} {rc : Array Value} {fz : Nat × Nat} (h : w.heap[r]? = some (.cells rc ty fz)) (o : Nat) : w.cell? ⟨r, o, none⟩ = rc[o]? := by
  simp [World.cell?, h]
theorem frozen_at {w : World} {r ty : Nat} {rc : Array Value} {fz : Nat × Nat} (h : w.heap[r]? = some (.cells rc ty fz)) (o : Nat) (hf : ¬ (fz.1 ≤ o ∧ o < fz.2)) : w.frozen? ⟨r, o, none⟩ = false := by
  obtain ⟨lo, hi⟩ := fz
  simp only [World.frozen?, h]
  simp only at hf
  rw [Bool.and_eq_false_iff]
  by_cases h1 : lo ≤ o
  · right; simp; omega
  · left; simp; omega
theorem setCell_putB {w : World} {r ty : Nat} {rc : Array Value} {fz : Nat × Nat} (h : w.heap[r]? = some (.cells rc ty fz)) (o : Nat) (v : Value) :
    w.setCell ⟨r, o, none⟩ v = putB w r (.cells (rc.setIfInBounds o v) ty fz) := by
  have hlt : r < w.heap.size := (Array.getElem?_eq_some_iff.1 h).1
  have hg : w.heap[r] = .cells rc ty fz := (Array.getElem?_eq_some_iff.1 h).2
  simp only [World.setCell, putB]
  congr 1
  apply Array.ext_getElem?
  intro i
  simp only [Array.getElem?_modify, Array.getElem?_setIfInBounds]
  by_cases e : r = i
  · subst e; simp [hlt, hg]
  · rw [if_neg e, if_neg e]

/-- cells stored one after the other -/
def setRow (rc : Array Value) (o : Nat) : List Value → Array Value
  | [] => rc
  | v :: vs => setRow (rc.setIfInBounds o v) (o + 1) vs
theorem setRow_size : ∀ (vs : List Value) (rc : Array Value) (o : Nat), (setRow rc o vs).size = rc.size
  | [], _, _ => rfl
  | v :: vs, rc, o => by simp [setRow, setRow_size vs]
theorem setRow_get : ∀ (vs : List Value) (rc : Array Value) (o : Nat), o + vs.length ≤ rc.size → ∀ i, (setRow rc o vs)[i]? = if o ≤ i ∧ i < o + vs.length then vs[i - o]? else rc[i]?
  | [], rc, o, _, i => by simp only [setRow, List.length_nil, Nat.add_zero]; rw [if_neg (by omega)]
  | v :: vs, rc, o, h, i => by
    simp only [List.length_cons] at h
    simp only [setRow]
    rw [setRow_get vs _ (o + 1) (by simp; omega) i]
    by_cases h1 : i = o
    · subst h1
      have hlt : i < rc.size := by omega
      rw [if_neg (by omega), if_pos (by simp)]
      simp [hlt]
    · by_cases h2 : o + 1 ≤ i ∧ i < o + 1 + vs.length
      · rw [if_pos h2, if_pos (by simp; omega)]
        have : i - o = (i - (o + 1)) + 1 := by omega
        rw [this]; simp
      · rw [if_neg h2, if_neg (by simp; omega)]
        rw [Array.getElem?_setIfInBounds_ne (by omega)]

theorem run_storeCells {P : Program} {r ty o : Nat} {fz : Nat × Nat} : ∀ (vs : List Value) (i : Nat) (w : World) (rc : Array Value), w.heap[r]? = some (.cells rc ty fz) →
    o + i + vs.length ≤ rc.size → Free fz (o + i) (o + i + vs.length) → (∀ v ∈ vs, v.oneCell' = true) →
    (storeCells ⟨r, o, none⟩ vs i).run P w = .ok () (putB w r (.cells (setRow rc (o + i) vs) ty fz))
  | [], i, w, rc, h, _, _, _ => by simp [storeCells, setRow, putB_same w r _ h]
  | v :: vs, i, w, rc, h, hs, hf, hv => by
    simp only [List.length_cons] at hs hf
    have hlt : r < w.heap.size := (Array.getElem?_eq_some_iff.1 h).1
    simp only [storeCells, Sem.run_bind, add_addr]
    rw [run_store P w _ v _ (hv v (by simp)), cell_at h, Array.getElem?_eq_getElem (by omega : o + i < rc.size)]
    simp only [frozen_at h (o + i) (hf (o + i) (by omega) (by omega)), Bool.false_eq_true, if_false, Result.andThen_ok]
    rw [setCell_putB h]
    have h' : (putB w r (.cells (rc.setIfInBounds (o + i) v) ty fz)).heap[r]? = some (.cells (rc.setIfInBounds (o + i) v) ty fz) := by rw [putB_get _ _ _ hlt, if_pos rfl]
    rw [run_storeCells vs (i + 1) _ _ h' (by simp; omega) (fun j h1 h2 => hf j (by omega) (by omega)) (fun u hu => hv u (by simp [hu])), putB_putB]
    rfl

theorem run_loadCellsFrom {P : Program} {w : World} {r ty o : Nat} {rc : Array Value} {fz : Nat × Nat} (h : w.heap[r]? = some (.cells rc ty fz)) : ∀ (n i : Nat) (acc : Array Value),
    o + i + n ≤ rc.size → (loadCellsFrom ⟨r, o, none⟩ i n acc).run P w = .ok (acc ++ ((rc.toList.drop (o + i)).take n).toArray) w
  | 0, i, acc, _ => by simp [loadCellsFrom]
  | n + 1, i, acc, hs => by
    simp only [loadCellsFrom, Sem.run_bind, add_addr, run_load]
    rw [cell_at h, Array.getElem?_eq_getElem (by omega : o + i < rc.size)]
    simp only [Result.andThen_ok]
    rw [run_loadCellsFrom h n (i + 1) _ (by omega)]
    congr 1
    have hlt : o + i < rc.toList.length := by simp; omega
    rw [List.drop_eq_getElem_cons hlt]
    simp [Nat.add_assoc]
theorem run_loadCells {P : Program} {w : World} {r ty o n : Nat} {rc : Array Value} {fz : Nat × Nat} (h : w.heap[r]? = some (.cells rc ty fz)) (hs : o + n ≤ rc.size) :
    (loadCells ⟨r, o, none⟩ n).run P w = .ok ((rc.toList.drop o).take n).toArray w := by
  unfold loadCells
  rw [run_loadCellsFrom h n 0 #[] (by omega)]
  simp

/-- the cells that are read are those that are known -/
theorem CR.read {ρ : Rho} {cs : List SV} {rc : Array Value} {base : Nat} (hc : CR ρ cs rc base) {off n : Nat} {ds : List SV} (h : takeN n (dropN off cs) = some ds) :
    VRs ρ ds ((rc.toList.drop (base + off)).take n) ∧ base + off + n ≤ rc.size ∨ n = 0 ∧ ds = [] := by
  obtain ⟨h1, h2⟩ := takeN_some n _ ds h
  rw [dropN_eq] at h1 h2
  by_cases hn : n = 0
  · subst hn; right; simp at h1; exact ⟨rfl, h1⟩
  · left
    simp only [List.length_drop] at h2
    have hlast : ∃ x, cs[off + (n - 1)]? = some x := ⟨_, List.getElem?_eq_getElem (by omega)⟩
    obtain ⟨x, hx⟩ := hlast
    obtain ⟨v, hv, _⟩ := hc _ x hx
    have hlt := (Array.getElem?_eq_some_iff.1 hv).1
    refine ⟨VRs.of_get ?_ ?_, by omega⟩
    · subst h1; simp; omega
    · intro i y u hy hu
      subst h1
      rw [List.getElem?_take] at hy hu
      by_cases hi : i < n
      · rw [if_pos hi, List.getElem?_drop] at hy hu
        obtain ⟨u', hu', hr⟩ := hc _ y hy
        rw [← Array.getElem?_toList, ← Nat.add_assoc, hu] at hu'
        cases hu'
        exact hr
      · rw [if_neg hi] at hy; cases hy

/-- writing known cells -/
theorem CR.write {ρ : Rho} {cs xs l : List SV} {rc : Array Value} {base off : Nat} {vs : List Value} (hc : CR ρ cs rc base) (h : putAt off xs cs = some l) (hv : VRs ρ xs vs) (hs : base + off + vs.length ≤ rc.size) :
    CR ρ l (setRow rc (base + off) vs) base := by
  obtain ⟨h1, h2, h3⟩ := putAt_some off xs cs l h
  have hl := hv.len
  intro i x hx
  rw [h3 i] at hx
  rw [setRow_get vs rc _ hs]
  by_cases hi : off ≤ i ∧ i < off + xs.length
  · rw [if_pos hi] at hx
    rw [if_pos (by omega)]
    obtain ⟨v, hv1, hv2⟩ := hv.get _ x hx
    exact ⟨v, by rw [← hv1]; congr 1; omega, hv2⟩
  · rw [if_neg hi] at hx
    rw [if_neg (by omega)]
    exact hc i x hx

theorem allOne_mem : ∀ {xs : List SV}, allOne xs = true → ∀ x ∈ xs, oneC x = true
  | [], _, x, hx => by simp at hx
  | y :: ys, h, x, hx => by
    simp only [allOne] at h
    cases hy : oneC y with
    | false => rw [hy] at h; simp at h
    | true =>
      rw [hy] at h
      simp only [cond_true] at h
      rcases List.mem_cons.1 hx with rfl | hx
      · exact hy
      · exact allOne_mem h x hx
theorem VRs.mem {ρ : Rho} : ∀ {xs : List SV} {l : List Value}, VRs ρ xs l → ∀ v ∈ l, ∃ x ∈ xs, VR ρ x v
  | [], l, h, v, hv => by rw [VRs.nil_iff] at h; subst h; simp at hv
  | x :: xs, l, h, v, hv => by
    obtain ⟨y, ys, hy, hys, rfl⟩ := h.cons_inv
    rcases List.mem_cons.1 hv with rfl | hv
    · exact ⟨x, by simp, hy⟩
    · obtain ⟨z, hz, hr⟩ := VRs.mem hys v hv
      exact ⟨z, by simp [hz], hr⟩
theorem one_of {ρ : Rho} {xs : List SV} {l : List Value} (h : allOne xs = true) (hv : VRs ρ xs l) : ∀ v ∈ l, v.oneCell' = true := fun v hm =>
  let ⟨x, hx, hr⟩ := hv.mem v hm; oneC_cell (allOne_mem h x hx) hr

/-- a write into a block -/
theorem write_sound {P : Program} {ρ : Rho} {N : Bound I} {s s' : St} {w : World} (H : Rel ρ N s w) {b off r base e : Nat} {xs : List SV} {vs : List Value} (h : writeN s b off xs = some s')
    (hb : ρ b = some (r, base, e)) (hv : VRs ρ xs vs) :
    ∃ w', (storeCells ⟨r, base + off, none⟩ vs).run P w = .ok () w' ∧ Rel ρ N s' w' ∧ Ext ρ s ρ s' ∧ Below N w w' := by
  unfold writeN at h
  cases ha : allOne xs with
  | false => rw [ha] at h; simp at h
  | true =>
    rw [ha, cond_true] at h
    have hone := one_of ha hv
    have hlen := hv.len
    have hL := H.live _ _ _ _ hb
    cases hg : s.h.get b with
    | cells ty cs =>
      rw [hg] at h hL
      simp only [writeB] at h
      cases hp : putAt off xs cs with
      | none => rw [hp] at h; simp at h
      | some l =>
        rw [hp] at h
        simp at h
        subst h
        obtain ⟨p1, p2, p3⟩ := putAt_some off xs cs l hp
        obtain ⟨rc, ho, hsz, hlen2, hb0, hcr⟩ := hL
        have hs : base + off + vs.length ≤ rc.size := by omega
        have hw : writable (s.h.get b) = true := by rw [hg]; rfl
        refine ⟨_, run_storeCells (P := P) vs 0 w rc ho (by omega) (fun i _ _ h2 => absurd h2.2 (Nat.not_lt_zero _)) hone, ?_, Ext.put H hb _, Below.putB (H.low _ _ _ _ hb hw)⟩
        refine H.put hb hw ?_
        exact ⟨setRow rc (base + off) vs, by simp, by rw [setRow_size]; exact hsz, by omega, hb0, hcr.write hp hv hs⟩
    | opn ty cs ub fzn st =>
      rw [hg] at h hL
      simp only [writeB] at h
      cases hfo : Nat.ble fzn off with
      | false => rw [hfo] at h; simp at h
      | true =>
        rw [hfo, cond_true] at h
        have hfo' := Nat.le_of_ble_eq_true hfo
        cases hp : putAt off xs cs with
        | none => rw [hp] at h; simp at h
        | some l =>
          rw [hp] at h
          simp at h
          subst h
          obtain ⟨p1, p2, p3⟩ := putAt_some off xs cs l hp
          obtain ⟨rc, fz, ho, hsz, hlen2, hub, hcr, hfr, hst⟩ := hL
          have hs : base + off + vs.length ≤ rc.size := by omega
          have hw : writable (s.h.get b) = true := by rw [hg]; rfl
          refine ⟨_, run_storeCells (P := P) vs 0 w rc ho (by omega) (fun i h1 h2 => hfr i (by omega) (by omega)) hone, ?_, Ext.put H hb _, Below.putB (H.low _ _ _ _ hb hw)⟩
          refine H.put hb hw ?_
          exact ⟨setRow rc (base + off) vs, fz, by simp, by rw [setRow_size]; exact hsz, by omega, hub, hcr.write hp hv hs, hfr, hst⟩
    | none => rw [hg] at h; simp [writeB] at h
    | ro ty cs => rw [hg] at h; simp [writeB] at h
    | map es c => rw [hg] at h; simp [writeB] at h
    | siter l n p => rw [hg] at h; simp [writeB] at h
    | lp _ _ _ _ _ _ _ _ => rw [hg] at h; simp [writeB] at h
    | dm => rw [hg] at h; simp [writeB] at h
    | mapp _ => rw [hg] at h; simp [writeB] at h
    | mapx _ => rw [hg] at h; simp [writeB] at h

/-- what is known of a block that is read -/
theorem read_block {ρ : Rho} {N : Bound I} {s : St} {w : World} (H : Rel ρ N s w) {b r base e : Nat} {cs : List SV} (h : readB (s.h.get b) = some cs) (hb : ρ b = some (r, base, e)) :
    ∃ rc ty fz, w.heap[r]? = some (.cells rc ty fz) ∧ CR ρ cs rc base := by
  have hL := H.live _ _ _ _ hb
  cases hg : s.h.get b <;> rw [hg] at h hL <;> simp [readB] at h
  · subst h; obtain ⟨rc, ho, _, _, _, hcr⟩ := hL; exact ⟨rc, _, _, ho, hcr⟩
  · subst h; obtain ⟨rc, fz, ho, _, _, _, hcr, _⟩ := hL; exact ⟨rc, _, fz, ho, hcr⟩
  · subst h; obtain ⟨rc, ty, fz, ho, hcr⟩ := hL; exact ⟨rc, ty, fz, ho, hcr⟩

theorem readN_sound {P : Program} {ρ : Rho} {N : Bound I} {s : St} {w : World} (H : Rel ρ N s w) {b off n r base e : Nat} {ds : List SV} (h : readN s b off n = some ds) (hb : ρ b = some (r, base, e)) :
    ∃ l : List Value, (loadCells ⟨r, base + off, none⟩ n).run P w = .ok l.toArray w ∧ VRs ρ ds l := by
  unfold readN at h
  cases hr : readB (s.h.get b) with
  | none => rw [hr] at h; simp at h
  | some cs =>
    rw [hr] at h
    simp only at h
    obtain ⟨rc, ty, fz, ho, hcr⟩ := read_block H hr hb
    rcases hcr.read h with ⟨h1, h2⟩ | ⟨h1, h2⟩
    · exact ⟨_, run_loadCells ho h2, h1⟩
    · subst h1 h2; exact ⟨[], by simp [loadCells, loadCellsFrom], VRs.nil⟩

end Go.Sh
