/- Part of a proof that a closed law answers true: the evaluator of the first text is sound; this text is one step of it. No condition. -/
import Derived.Test.YtbnplpeodjknaaaGreatDoorShE
import Derived.Laws.MakeOwn
set_option linter.unusedSectionVars false
set_option linter.unusedSimpArgs false
set_option linter.unusedVariables false
namespace Go.Sh
variable [Opq]
open Go.RowKit (Below)
variable {I : Rho → World → Prop}

variable {P : Program} {ρ : Rho} {N : Bound I} {s : St} {w : World} {k0 : Prop}
variable {env : En} {re : Operand → Value} {d : Option Tmp} {ty : TypeId} {pos : String} {af : Array Edge} {gd : Option (Nat × Bool)}

/-! ## types -/
theorem size?_some {t : TypeId} {n : Nat} (h : size? P t = some n) : ∃ i, P.info? t = some i ∧ i.size = n := by
  unfold size? at h
  split at h
  · rename_i i hi; exact ⟨i, hi, by simpa using h⟩
  · cases h
theorem run_sizeOf {t : TypeId} {n : Nat} (h : size? P t = some n) (w : World) : (sizeOf t).run P w = .ok n w := by
  obtain ⟨i, hi, hs⟩ := size?_some h
  simp [sizeOf, typeInfo, hi, hs]
theorem run_isAgg {t : TypeId} {dd : TypeDesc} (h : P.underlying t = some dd) (w : World) : (isAgg t).run P w = .ok (isAggD dd) w := by
  simp only [isAgg, Sem.run_bind, run_underlying h, Result.andThen_ok]
  cases dd <;> rfl
theorem zeroS_some {t : TypeId} (h : zeroS P t ≠ .bad) : ∃ i z, P.info? t = some i ∧ i.zero = some z ∧ zeroS P t = ofV z := by
  unfold zeroS at h ⊢
  cases hi : P.info? t with
  | none => rw [hi] at h; simp at h
  | some i =>
    rw [hi] at h
    simp only at h ⊢
    cases hz : i.zero with
    | none => rw [hz] at h; simp at h
    | some z => exact ⟨i, z, rfl, hz, by simp⟩
theorem zeroS_sound {t : TypeId} (h : zeroS P t ≠ .bad) : ∃ z, (∀ w : World, (zeroValue t).run P w = .ok z w) ∧ ∀ ρ, VR ρ (zeroS P t) z := by
  obtain ⟨i, z, hi, hz, he⟩ := zeroS_some h
  refine ⟨z, fun w => by simp [zeroValue, typeInfo, hi, hz], fun ρ => ?_⟩
  rw [he] at h ⊢
  exact ofV_sound ρ z h
theorem ofV1_notup (z : Value) : (∀ l, ofV1 z ≠ .tup l) ∧ ofV1 z ≠ .junk := by
  cases z with
  | pointer a => cases a <;> simp [ofV1]
  | slice a l c => cases a <;> cases l <;> cases c <;> simp [ofV1]
  | map r => cases r <;> simp [ofV1]
  | func f a c => simp only [ofV1]; cases (a.isEmpty && c.isEmpty) <;> simp
  | _ => simp [ofV1]
theorem ofV_notup (z : Value) : (∀ l, ofV z ≠ .tup l) ∧ ofV z ≠ .junk := by
  cases z with
  | agg cs => simp only [ofV, aggV]; cases anyBad (cs.toList.map ofV1) <;> simp
  | _ => simp only [ofV]; exact ofV1_notup _
theorem zeroCs_some {t : TypeId} {cs : List SV} (h : zeroCs P t = some cs) : ∃ i z, P.info? t = some i ∧ i.zero = some z ∧ (∀ w : World, (zeroValue t).run P w = .ok z w) ∧ ∀ ρ, VRs ρ cs z.cells.toList := by
  unfold zeroCs at h
  split at h
  · cases h
  · rename_i v hv
    obtain ⟨i, z, hi, hz, he⟩ := zeroS_some (P := P) (t := t) (fun e => hv e)
    dsimp only at h
    cases hb : anyBad (cellsOf (zeroS P t)) with
    | true => rw [hb] at h; simp at h
    | false =>
      rw [hb] at h
      simp at h
      subst h
      refine ⟨i, z, hi, hz, fun w => by simp [zeroValue, typeInfo, hi, hz], fun ρ => ?_⟩
      have hs := ofV_sound ρ z (by rw [← he]; exact fun e => hv e)
      rw [he]
      exact VR.cells (ofV_notup z).2 (ofV_notup z).1 hs

/-! ## loads and stores -/
theorem headC_some {l : List SV} (h : headC l ≠ .bad) : l[0]? = some (headC l) := by cases l <;> simp [headC] at h ⊢
theorem read1_sound (H : Rel ρ N s w) {b off r base e : Nat} (hb : ρ b = some (r, base, e)) (h : read1 s b off ≠ .bad) : ∃ v, w.cell? ⟨r, base + off, none⟩ = some v ∧ VR ρ (read1 s b off) v := by
  unfold read1 at h ⊢
  cases hr : readB (s.h.get b) with
  | none => rw [hr] at h; simp at h
  | some cs =>
    rw [hr] at h
    simp only at h ⊢
    obtain ⟨rc, ty, fz, ho, hcr⟩ := read_block H hr hb
    have h0 := headC_some h
    rw [dropN_eq] at h0 h
    rw [dropN_eq, cell_at ho]
    have h1 : cs[off]? = some (headC (List.drop off cs)) := by rw [← h0]; simp
    exact hcr _ _ h1
theorem optAgg_some {o : Option (List SV)} (h : optAgg o ≠ .bad) : ∃ l, o = some l ∧ optAgg o = .agg l := by cases o <;> simp [optAgg] at h ⊢
theorem loadS_sound (H : Rel ρ N s w) {t : TypeId} {x : SV} {v : Value} (hx : x ≠ .bad → VR ρ x v) (h : loadS P s t x ≠ .bad) : ∃ u, (Instr.loadAt t v).run P w = .ok u w ∧ VR ρ (loadS P s t x) u := by
  unfold loadS at h ⊢
  split at h
  · rename_i b off
    have hv := hx (by simp)
    simp only [VR] at hv
    obtain ⟨r, base, e, hb, rfl⟩ := hv
    split at h
    · rename_i dd hd
      have hrun : (Instr.loadAt t (.pointer (some ⟨r, base + off, none⟩))).run P w = (loadVar t ⟨r, base + off, none⟩).run P w := by simp [Instr.loadAt, Instr.sureAddr]
      rw [hrun]
      simp only [loadVar, Sem.run_bind, run_isAgg hd, Result.andThen_ok]
      cases ha : isAggD dd with
      | true =>
        rw [ha, cond_true] at h
        rw [cond_true]
        split at h
        · rename_i n hn
          obtain ⟨l, hl1, hl2⟩ := optAgg_some h
          obtain ⟨vs, h1, h2⟩ := readN_sound (P := P) H hl1 hb
          refine ⟨.agg vs.toArray, ?_, ?_⟩
          · simp [run_sizeOf hn, h1]
          · rw [hl2]; simp only [VR]; exact ⟨vs, h2, rfl⟩
        · exact absurd rfl h
      | false =>
        rw [ha, cond_false] at h
        rw [cond_false]
        obtain ⟨u, h1, h2⟩ := read1_sound H hb h
        refine ⟨u, ?_, h2⟩
        simp [h1]
    · exact absurd rfl h
  · exact absurd rfl h
theorem load_sound (H : Rel ρ N s w) {t : TypeId} {a : Operand} (ha : OR ρ env re a) : RR P ρ N s w k0 ((execOp re ⟨d, .load t a, ty, pos, af, gd⟩).run P w) (exLoad t a P env s) := by
  unfold exLoad
  refine RR.rv H fun h => ?_
  obtain ⟨u, h1, h2⟩ := loadS_sound H ha h
  exact ⟨u, by simp only [execOp]; exact run_v h1, h2⟩
theorem VR.cells' {x : SV} {v : Value} (ha : allOne (cellsOf x) = true) (h : VR ρ x v) : VRs ρ (cellsOf x) v.cells.toList := by
  refine VR.cells (fun e => ?_) (fun l e => ?_) h
  · subst e; simp [cellsOf, allOne, oneC] at ha
  · subst e; simp [cellsOf, allOne, oneC] at ha
theorem writeN_allOne {b off : Nat} {xs : List SV} {s' : St} (h : writeN s b off xs = some s') : allOne xs = true := by
  unfold writeN at h
  cases ha : allOne xs with
  | true => rfl
  | false => rw [ha] at h; simp at h
theorem store_sound (H : Rel ρ N s w) {t : TypeId} {a x : Operand} (ha : OR ρ env re a) (hx : OR ρ env re x) :
    RR P ρ N s w k0 ((execOp re ⟨d, .store t a x, ty, pos, af, gd⟩).run P w) (exStore t a x P env s) := by
  unfold exStore
  split
  · rename_i b off n hv hn
    have h := ha (by rw [hv]; simp)
    rw [hv] at h
    simp only [VR] at h
    obtain ⟨r, base, e, hb, hre⟩ := h
    cases hl : Nat.beq (cellsOf (evO x env)).length n with
    | false => exact trivial
    | true =>
      rw [cond_true]
      split
      · rename_i s' hw
        have hone := writeN_allOne hw
        have hxb : evO x env ≠ .bad := fun e => by rw [e] at hone; simp [cellsOf, allOne, oneC] at hone
        have hxs := VR.cells' hone (hx hxb)
        obtain ⟨w', h1, h2, h3, h4⟩ := write_sound (P := P) H hw hb hxs
        refine ⟨ρ, w', ?_, h2, h3, h4⟩
        simp only [execOp]
        apply run_u
        have hsz : (re x).cells.size = n := by
          have := hxs.len
          simp only [Array.length_toList] at this
          rw [this]; exact Nat.eq_of_beq_eq_true hl
        simp [Instr.storeAt, hre, Instr.sureAddr, storeVar, run_sizeOf hn, hsz, h1]
      · exact trivial
  · exact trivial

/-! ## allocations -/
def realOf : Mk → Nat → Value
  | .ptr, r => .pointer (some ⟨r, 0, none⟩)
  | .slc l c, r => .slice (some ⟨r, 0, none⟩) l c
  | .mp, r => .map (some r)
theorem valOf_sound {ρ : Rho} {mk : Mk} {b r e : Nat} (h : ρ b = some (r, 0, e)) : VR ρ (valOf mk b) (realOf mk r) := by
  cases mk <;> simp only [valOf, realOf, VR]
  · exact ⟨r, 0, e, h, rfl⟩
  · exact ⟨r, 0, e, h, rfl⟩
  · exact ⟨r, 0, e, h, rfl⟩
def AllocOK (ρ : Rho) (w : World) (res : Result Next) (mk : Mk) (blk : SBlk) : Prop :=
  ∃ o e, res = .ok (.value (realOf mk w.heap.size)) (newB w o) ∧ BR ρ 0 e blk (some o)
theorem newR_sound (H : Rel ρ N s w) {res : Result Next} {m : Option (Mk × SBlk)} (h : ∀ mk blk, m = some (mk, blk) → AllocOK ρ w res mk blk) : RR P ρ N s w k0 res (newR m s) := by
  unfold newR
  rcases m with _ | ⟨mk, blk⟩
  · exact trivial
  · obtain ⟨o, e, h1, h2⟩ := h mk blk rfl
    refine ⟨ρ.add s.nx (w.heap.size, 0, e), _, _, h1, valOf_sound (Rho.add_self _ _ _), H.new h2, Ext.new H _ _, Below.newB H.size, fun _ hn => ?_⟩
    exact absurd hn (by show Nat.succ s.nx ≠ s.nx; omega)
theorem newRow_run (w : World) (t : TypeId) (cs : Array Value) : (newRow t cs).run P w = .ok ⟨w.heap.size, 0, none⟩ (newB w (.cells cs t (0, 0))) := by
  simp [newRow, newB]
theorem CR.of_vrs {xs : List SV} {cs : Array Value} (h : VRs ρ xs cs.toList) : CR ρ xs cs 0 := fun i x hx => by
  obtain ⟨v, h1, h2⟩ := h.get i x hx
  exact ⟨v, by simpa using h1, h2⟩
theorem BR.fresh {t : Nat} {xs : List SV} {cs : Array Value} (h : VRs ρ xs cs.toList) : BR ρ 0 cs.size (.cells t xs) (some (.cells cs t (0, 0))) :=
  ⟨cs, rfl, rfl, by have := h.len; simp at this; omega, rfl, CR.of_vrs h⟩
theorem alloc_ok {t : TypeId} {mk : Mk} {blk : SBlk} (h : mkAlloc t P env = some (mk, blk)) : AllocOK ρ w ((execOp re ⟨d, .alloc t, ty, pos, af, gd⟩).run P w) mk blk := by
  unfold mkAlloc at h
  split at h
  · rename_i cs hz
    cases h
    obtain ⟨i, z, hi, hz', hr, hv⟩ := zeroCs_some hz
    refine ⟨_, _, ?_, BR.fresh (hv ρ)⟩
    simp only [execOp]
    apply run_v
    simp [Instr.alloc, hr, newVar, newRow_run, realOf]
  · cases h
theorem box_ok {t : TypeId} {x : Operand} {mk : Mk} {blk : SBlk} (hx : OR ρ env re x) (h : mkBox t x P env = some (mk, blk)) : AllocOK ρ w ((execOp re ⟨d, .box t x, ty, pos, af, gd⟩).run P w) mk blk := by
  unfold mkBox at h
  split at h
  · cases h
  · rename_i v hv
    cases ha : allOne (cellsOf (evO x env)) with
    | false => rw [ha] at h; simp at h
    | true =>
      rw [ha] at h
      simp at h
      obtain ⟨rfl, rfl⟩ := h
      have hs := VR.cells' ha (hx (fun e => hv e))
      refine ⟨_, _, ?_, BR.fresh hs⟩
      simp only [execOp]
      apply run_v
      simp [Instr.box, newVar, newRow_run, realOf]

/-! ## parts -/
/-- the model's filling of cells -/
theorem foldl_set (vs : List Value) : ∀ (k : Nat) (off : Nat) (cs : Array Value), ((vs.zipIdx k).foldl (fun cs (c, j) => cs.setIfInBounds (off + j) c) cs) = setRow cs (off + k) vs := by
  induction vs with
  | nil => intro k off cs; rfl
  | cons v vs ih =>
    intro k off cs
    simp only [List.zipIdx_cons, List.foldl_cons, setRow]
    rw [ih (k + 1) off]
    rfl
theorem putAt_vrs {ρ : Rho} {off : Nat} {xs cs cells : List SV} {vs : List Value} {rc : Array Value} (hput : putAt off xs cs = some cells) (hv : VRs ρ xs vs) (hc : VRs ρ cs rc.toList) :
    VRs ρ cells (setRow rc off vs).toList ∧ off + vs.length ≤ rc.size := by
  obtain ⟨p1, p2, p3⟩ := putAt_some _ _ _ _ hput
  have hl := hv.len
  have hcl := hc.len
  simp only [Array.length_toList] at hcl
  refine ⟨VRs.of_get (by simp [setRow_size]; omega) fun i x v hx hvv => ?_, by omega⟩
  rw [p3 i] at hx
  rw [Array.getElem?_toList, setRow_get vs rc off (by omega)] at hvv
  by_cases hi : off ≤ i ∧ i < off + xs.length
  · rw [if_pos hi] at hx
    rw [if_pos (by omega)] at hvv
    obtain ⟨u, h1, h2⟩ := hv.get _ _ hx
    rw [h1] at hvv; cases hvv; exact h2
  · rw [if_neg hi] at hx
    rw [if_neg (by omega)] at hvv
    obtain ⟨u, h1, h2⟩ := hc.get _ _ hx
    rw [Array.getElem?_toList, hvv] at h1; cases h1; exact h2
theorem fill_sound {ρ : Rho} (place : Nat → Option (Nat × Nat)) : ∀ (ps : List (Nat × SV)) (qs : List (Nat × Value)) (cs out : List SV) (rc : Array Value),
    fillS place ps cs = some out → ps.length = qs.length →
    (∀ i : Nat, ∀ p q, ps[i]? = some p → qs[i]? = some q → p.1 = q.1 ∧ (p.2 ≠ .bad → VR ρ p.2 q.2)) → VRs ρ cs rc.toList →
    ∃ out', Instr.fill place rc qs = some out' ∧ VRs ρ out out'.toList
  | [], qs, cs, out, rc, h, hl, _, hc => by
    have : qs = [] := List.eq_nil_of_length_eq_zero (by simpa using hl.symm)
    subst this
    simp only [fillS] at h
    cases h
    exact ⟨rc, rfl, hc⟩
  | (i, x) :: ps, [], cs, out, rc, h, hl, _, hc => by simp at hl
  | (i, x) :: ps, (j, v) :: qs, cs, out, rc, h, hl, hp, hc => by
    simp only [fillS] at h
    split at h
    · rename_i off size hpl
      cases hsz : Nat.beq (cellsOf x).length size with
      | false => rw [hsz] at h; simp at h
      | true =>
        rw [hsz, cond_true] at h
        cases hone : allOne (cellsOf x) with
        | false => rw [hone] at h; simp at h
        | true =>
          rw [hone, cond_true] at h
          split at h
          · rename_i cells hput
            have h0 := hp 0 (i, x) (j, v) rfl rfl
            obtain ⟨hij, hxv⟩ := h0
            simp only at hij hxv
            subst hij
            have hxs := VR.cells' hone (hxv (fun e => by subst e; simp [cellsOf, allOne, oneC] at hone))
            obtain ⟨h1, h2⟩ := putAt_vrs hput hxs hc
            have hlen := hxs.len
            simp only [Array.length_toList] at hlen h2
            have hs := Nat.eq_of_beq_eq_true hsz
            obtain ⟨out', h3, h4⟩ := fill_sound place ps qs cells out (setRow rc off v.cells.toList) h (by simpa using hl) (fun k p q h1 h2 => hp (k + 1) p q (by simpa using h1) (by simpa using h2)) h1
            refine ⟨out', ?_, h4⟩
            simp only [Instr.fill, hpl]
            rw [if_neg (by simp; omega)]
            rw [← h3]
            congr 1
            rw [← Array.foldl_toList, Array.toList_zipIdx]
            exact foldl_set v.cells.toList 0 off rc
          · cases h
    · cases h
theorem evParts_ok {parts : Array (Nat × Operand)} (h : ORs ρ env re (parts.toList.map (·.2))) :
    (evParts parts.toList env).length = (parts.map fun (i, x) => (i, re x)).toList.length ∧
    ∀ i : Nat, ∀ p q, (evParts parts.toList env)[i]? = some p → (parts.map fun (i, x) => (i, re x)).toList[i]? = some q → p.1 = q.1 ∧ (p.2 ≠ .bad → VR ρ p.2 q.2) := by
  refine ⟨by simp [evParts], fun i p q hp hq => ?_⟩
  simp only [evParts, List.getElem?_map, Array.toList_map] at hp hq
  cases hg : parts.toList[i]? with
  | none => rw [hg] at hp; simp at hp
  | some pr =>
    rw [hg] at hp hq
    simp at hp hq
    subst hp hq
    refine ⟨rfl, fun hb => ?_⟩
    exact h pr.2 (List.mem_map.2 ⟨pr, List.mem_of_getElem? hg, rfl⟩) hb
theorem placeF_eq {fs : Array Field} {places : Array (Nat × Nat)} (h : ∀ i : Nat, places[i]? = placeF P fs i) : (places[·]?) = placeF P fs := funext h
theorem mapM_sizes (w : World) : ∀ (fs : List Field), (∀ f ∈ fs, (size? P f.type).isSome = true) →
    (fs.mapM (m := Sem) fun f => do pure (f.offset, ← sizeOf f.type)).run P w = .ok (fs.map fun f => (f.offset, (size? P f.type).getD 0)) w
  | [], _ => by simp
  | f :: fs, h => by
    have h1 := h f (by simp)
    obtain ⟨n, hn⟩ := Option.isSome_iff_exists.1 h1
    simp only [List.mapM_cons, Sem.run_bind, run_sizeOf hn, Result.andThen_ok, Sem.run_pure, mapM_sizes w fs (fun g hg => h g (by simp [hg])), List.map_cons, hn, Option.getD_some]
theorem fldB_ok {fs : Array Field} (h : fldB P fs = true) : ∀ f ∈ fs.toList, (size? P f.type).isSome = true := fun f hf => by
  have := List.all_eq_true.1 h f hf
  unfold hasSize at this
  split at this
  · rename_i hs; rw [hs]; rfl
  · cases this
theorem run_places {fs : Array Field} (hF : ∀ f ∈ fs.toList, (size? P f.type).isSome = true) (w : World) :
    ∃ places : Array (Nat × Nat), (fs.mapM (m := Sem) fun f => do pure (f.offset, ← sizeOf f.type)).run P w = .ok places w ∧ (places[·]?) = placeF P fs := by
  refine ⟨(fs.toList.map fun f => (f.offset, (size? P f.type).getD 0)).toArray, ?_, ?_⟩
  · rw [Array.mapM_eq_mapM_toList, Sem.run_map, mapM_sizes w fs.toList hF]
    rfl
  · funext i
    simp only [placeF, List.getElem?_toArray, List.getElem?_map, Array.getElem?_toList]
    cases hf : fs[i]? with
    | none => rfl
    | some f =>
      have := hF f (by rw [← Array.getElem?_toList] at hf; exact List.mem_of_getElem? hf)
      obtain ⟨n, hn⟩ := Option.isSome_iff_exists.1 this
      simp [hn]
theorem build_sound (H : Rel ρ N s w) {t : TypeId} {parts : Array (Nat × Operand)} (h : ORs ρ env re (parts.toList.map (·.2))) :
    RR P ρ N s w k0 ((execOp re ⟨d, .build t parts, ty, pos, af, gd⟩).run P w) (exBuild t parts P env s) := by
  unfold exBuild
  obtain ⟨hlen, hps⟩ := evParts_ok h
  split
  · rename_i fs z hu hz
    cases hfl : fldB P fs with
    | false => exact trivial
    | true =>
    rw [cond_true]
    unfold aggOk
    split
    · rename_i l hf
      obtain ⟨i, zv, hi, hz', hr, hv⟩ := zeroCs_some hz
      obtain ⟨out', h1, h2⟩ := fill_sound _ _ _ _ _ _ hf hlen hps (hv ρ)
      refine RV.pure H (v := .agg out') ?_ (by simp only [VR]; exact ⟨_, h2, by simp⟩)
      simp only [execOp]
      apply run_v
      obtain ⟨places, h3, h4⟩ := run_places (fldB_ok hfl) w
      simp only [Instr.build, Sem.run_bind, hr, Result.andThen_ok, run_underlying hu, h3, h4, h1]
      rfl
    · exact trivial
  · rename_i n e z hu hz
    split
    · rename_i sz hsz
      unfold aggOk
      split
      · rename_i l hf
        obtain ⟨i, zv, hi, hz', hr, hv⟩ := zeroCs_some hz
        obtain ⟨out', h1, h2⟩ := fill_sound _ _ _ _ _ _ hf hlen hps (hv ρ)
        refine RV.pure H (v := .agg out') ?_ (by simp only [VR]; exact ⟨_, h2, by simp⟩)
        simp only [execOp]
        apply run_v
        have h1' : Instr.fill (fun i => some (i * sz, sz)) zv.cells (parts.map fun (i, x) => (i, re x)).toList = some out' := h1
        simp only [Instr.build, Sem.run_bind, hr, Result.andThen_ok, run_underlying hu, run_sizeOf hsz, h1']
        rfl
      · exact trivial
    · exact trivial
  · exact trivial

/-! ## slices that are built -/
theorem repl_len (z : List SV) : ∀ n, (repl z n).length = n * z.length
  | 0 => by simp [repl]
  | n + 1 => by simp [repl, repl_len z n, Nat.succ_mul]; omega
theorem repl_get (z : List SV) (hk : 0 < z.length) : ∀ (n i : Nat), i < n * z.length → (repl z n)[i]? = z[i % z.length]?
  | 0, i, h => by simp at h
  | n + 1, i, h => by
    simp only [repl]
    by_cases hi : i < z.length
    · rw [List.getElem?_append_left hi, Nat.mod_eq_of_lt hi]
    · rw [List.getElem?_append_right (by omega), repl_get z hk n (i - z.length) (by rw [Nat.succ_mul] at h; omega)]
      rw [← Nat.mod_eq_sub_mod (by omega)]
theorem repl_vrs {ρ : Rho} {z : List SV} {zc : Array Value} (h : VRs ρ z zc.toList) (n : Nat) (hz : 0 < z.length) :
    VRs ρ (repl z n) ((Array.range (n * z.length)).map (zc[· % zc.size]!)).toList := by
  have hl := h.len
  simp only [Array.length_toList] at hl
  refine VRs.of_get (by simp [repl_len]) fun i x v hx hv => ?_
  by_cases hi : i < n * z.length
  · rw [repl_get z hz n i hi] at hx
    obtain ⟨u, h1, h2⟩ := h.get _ _ hx
    simp only [Array.getElem?_toList, Array.getElem?_map] at hv
    rw [Array.getElem?_eq_getElem (by simpa using hi)] at hv
    simp at hv
    subst hv
    rw [Array.getElem?_toList] at h1
    rw [hl]
    have : zc[i % z.length]! = u := by simp [getElem!_def, h1]
    rw [this]
    exact h2
  · rw [List.getElem?_eq_none (by rw [repl_len]; omega)] at hx; cases hx
theorem buildSlice_ok {t : TypeId} {len : Nat} {parts : Array (Nat × Operand)} {mk : Mk} {blk : SBlk} (h : ORs ρ env re (parts.toList.map (·.2))) (hm : mkBuildSlice t len parts P env = some (mk, blk)) :
    AllocOK ρ w ((execOp re ⟨d, .buildSlice t len parts, ty, pos, af, gd⟩).run P w) mk blk := by
  unfold mkBuildSlice at hm
  obtain ⟨hlen, hps⟩ := evParts_ok h
  split at hm
  · rename_i e hu
    split at hm
    · rename_i sz z hsz hz
      cases hc : (Nat.ble (Nat.mul len (Nat.succ sz)) 1048576 && Nat.beq z.length (Nat.succ sz)) with
      | false => rw [hc] at hm; simp at hm
      | true =>
        rw [hc, cond_true] at hm
        rw [Bool.and_eq_true] at hc
        have hc1 : len * (sz + 1) ≤ 1048576 := Nat.le_of_ble_eq_true hc.1
        have hc2 : z.length = sz + 1 := Nat.eq_of_beq_eq_true hc.2
        split at hm
        · rename_i cs hf
          cases hm
          obtain ⟨i, zv, hi, hz', hr, hv⟩ := zeroCs_some hz
          have hvr := repl_vrs (hv ρ) len (by omega)
          obtain ⟨out', h1, h2⟩ := fill_sound _ _ _ _ _ _ hf hlen hps hvr
          refine ⟨_, _, ?_, BR.fresh h2⟩
          simp only [execOp]
          apply run_v
          have h1' : Instr.fill (fun i => some (i * sz.succ, sz.succ)) ((Array.range (len * sz.succ)).map (zv.cells[· % zv.cells.size]!)) (parts.map fun (i, x) => (i, re x)).toList = some out' := by rw [hc2] at h1; exact h1
          have hn : ¬ (len * sz.succ > 2 ^ 24) := by show ¬ (len * (sz + 1) > 2 ^ 24); omega
          simp only [Instr.buildSlice, Sem.run_bind, run_underlying hu, Result.andThen_ok, run_sizeOf hsz, if_neg hn]
          by_cases h0 : len * sz.succ = 0
          · have e0 : ∀ (z : Array Value), (Array.range (len * sz.succ)).map (z[· % z.size]!) = #[] := fun z => by rw [h0]; simp
            rw [e0] at h1'
            simp only [if_pos h0, Sem.run_bind, Sem.run_pure, Result.andThen_ok, e0, h1', newRow_run]
            rfl
          · simp only [if_neg h0, Sem.run_bind, Sem.run_pure, Result.andThen_ok, hr, h1', newRow_run]
            rfl
        · cases hm
    · cases hm
  · cases hm
theorem makeMap_ok {t : TypeId} {r : Option Operand} {mk : Mk} {blk : SBlk} (hm : mkMap t r P env = some (mk, blk)) :
    AllocOK ρ w ((execOp re ⟨d, .makeMap t r, ty, pos, af, gd⟩).run P w) mk blk := by
  unfold mkMap at hm
  split at hm
  · cases hm
    refine ⟨.map #[] 0, 0, ?_, ⟨#[], rfl, by simp [ER]⟩⟩
    simp only [execOp]
    apply run_v
    simp [Instr.makeMap, newB, realOf]
  · cases hm
theorem asN_some {x : SV} {n : Nat} (h : asN x = some n) : ∃ k, x = .int k (.ofNat n) := by
  unfold asN at h
  split at h
  · rename_i k m; cases h; exact ⟨k, rfl⟩
  · cases h
theorem OR.asN {x : Operand} {n : Nat} (hx : OR ρ env re x) (h : asN (evO x env) = some n) : ∃ k, re x = .int k n := by
  obtain ⟨k, hk⟩ := asN_some h
  have := hx (by rw [hk]; simp)
  rw [hk] at this
  simp only [VR] at this
  exact ⟨k, this⟩
theorem makeSlice_ok {t : TypeId} {l c : Operand} {mk : Mk} {blk : SBlk} (hl : OR ρ env re l) (hc : OR ρ env re c) (hm : mkMakeSlice t l c P env = some (mk, blk)) :
    AllocOK ρ w ((execOp re ⟨d, .makeSlice t l c, ty, pos, af, gd⟩).run P w) mk blk := by
  unfold mkMakeSlice at hm
  split at hm
  · rename_i e hu
    split at hm
    · rename_i i z len cap hi hz hln hcp
      cases hq : (Nat.ble len cap && small cap i.bytes && Nat.beq z.length i.size && Nat.ble 1 i.size) with
      | false => rw [hq] at hm; simp at hm
      | true =>
        rw [hq] at hm
        simp at hm
        obtain ⟨rfl, rfl⟩ := hm
        simp only [Bool.and_eq_true, small] at hq
        obtain ⟨⟨⟨h1, h2, h3⟩, h4⟩, h5⟩ := hq
        have h1 := Nat.le_of_ble_eq_true h1
        have h2 := Nat.le_of_ble_eq_true h2
        have h3 := Nat.le_of_ble_eq_true h3
        have h4 := Nat.eq_of_beq_eq_true h4
        have h5 := Nat.le_of_ble_eq_true h5
        obtain ⟨kl, hkl⟩ := hl.asN hln
        obtain ⟨kc, hkc⟩ := hc.asN hcp
        obtain ⟨i', zv, hi', hz', hr, hv⟩ := zeroCs_some hz
        rw [hi] at hi'; cases hi'
        have hvr := repl_vrs (hv ρ) cap (by omega)
        have hb : i.bytes * cap ≤ 1048576 * 1048576 := Nat.mul_le_mul h3 h2
        refine ⟨_, _, ?_, BR.fresh hvr⟩
        simp only [execOp]
        apply run_v
        simp only [hkl, hkc]
        have hb' : (i.bytes : Int) * ((cap : Nat) : Int) ≤ 281474976710656 := by
          have : ((i.bytes * cap : Nat) : Int) = (i.bytes : Int) * (cap : Int) := Int.natCast_mul _ _
          rw [← this]; omega
        rw [run_make w t e i zv hu hi hz' kl kc len cap (by omega) (by omega) hb' (by omega)]
        rw [h4]
        rfl
    · cases hm
  · cases hm
end Go.Sh
