/- Part of a proof that a closed law answers true: the evaluator of the first text is sound; this text is one step of it. No condition. -/
import Derived.Test.YtbnplpeodjknaaaGreatDoorShVU
set_option linter.unusedSectionVars false
set_option linter.unusedSimpArgs false
set_option linter.unusedVariables false
namespace Go.Sh
variable [Opq]
open Go.RowKit (Below)
variable {I : Rho → World → Prop}
variable {P : Program} {E : EE} {callF : CallF}

theorem stagesFrom_mem {acts rows : List Row} : ∀ {l : List Row} {m : Nat} {q : Row × List Row}, q ∈ stagesFrom acts rows l m → q.1 ∈ l ∧ ∀ r ∈ q.2, r ∈ rows
  | [], m, q, h => by simp [stagesFrom] at h
  | e :: es, m, q, h => by
    simp only [stagesFrom] at h
    rcases List.mem_cons.1 h with rfl | h
    · exact ⟨by simp, fun r hr => (List.mem_filter.1 hr).1⟩
    · obtain ⟨h1, h2⟩ := stagesFrom_mem h
      exact ⟨by simp [h1], h2⟩
theorem region_sound {ro : Option Nat} (hM : P.follows .mixedOrders = true) (hP : PH P E) (hC : CallSound I P callF) {id n : Nat} {N : Bound I} {ops : Array Oper} {fr : Fr} {s : St} {kN : KN} {kX : KX} {ρ : Rho} {a : Act} {w : World}
    (h : drawS E P callF ops (rowsOf ops) fr s kN kX = true) (hok : ops.toList.all (operOk n P.globals.size) = true) (hnd : ro ≠ none → ops.toList.all (fun o => notDefer o.op) = true) (hF : FrR ρ n fr a) (H : Rel ρ N s w) (hG : Glob P.globals.size ρ) :
    (Code.region id ops true).wpIn (Wd ro) 0 P (QC ρ s w N n kN kX) a w := by
  unfold drawS at h
  cases hd : drawOk ops (rowsOf ops) (sched (rowsOf ops)) with
  | false => rw [hd] at h; simp [failB] at h
  | true =>
    rw [hd, cond_true] at h
    unfold drawOk at hd
    rw [Bool.and_eq_true] at hd
    have F := RF.of_check hd.1
    have hrow : ∀ r ∈ rowsOf ops, (rowsOf ops)[r.i]? = some r := fun r hr => by
      obtain ⟨k, hk⟩ := List.mem_iff_getElem?.1 hr
      have := (rowsOf_get hk).1
      rw [this]; exact hk
    have hmem : ∀ q ∈ (sched (rowsOf ops)).2, (rowsOf ops)[q.1.i]? = some q.1 ∧ ∀ r ∈ q.2, (rowsOf ops)[r.i]? = some r := fun q hq => by
      obtain ⟨h1, h2⟩ := stagesFrom_mem hq
      exact ⟨hrow _ (List.mem_filter.1 h1).1, fun r hr => hrow r (h2 r hr)⟩
    have hmem0 : ∀ r ∈ (sched (rowsOf ops)).1, (rowsOf ops)[r.i]? = some r := fun r hr => hrow r (List.mem_filter.1 hr).1
    have hok' : ∀ (i : Nat) (r : Row), (rowsOf ops)[i]? = some r → operOk n P.globals.size r.o = true := fun i r hr => by
      have := (rowsOf_get hr).2.1
      exact List.all_eq_true.1 hok r.o (by rw [← Array.getElem?_toList] at this; exact List.mem_of_getElem? this)
    have hnd' : ro ≠ none → ∀ (i : Nat) (r : Row), (rowsOf ops)[i]? = some r → notDefer r.o.op = true := fun hro i r hr => by
      have := (rowsOf_get hr).2.1
      exact List.all_eq_true.1 (hnd hro) r.o (by rw [← Array.getElem?_toList] at this; exact List.mem_of_getElem? this)
    have hd2 := hd.2
    split at hd2
    · rename_i dEnd hst
      refine wpIn_region_any hM ?_
      have start : ∀ PI : St → Nat → Oper → En → Prop, Inv PI P ops (rowsOf ops) ρ s w N n fr a 0 (fun _ => .bad) (fun _ => none) [] fr s ρ (Array.replicate ops.size false) a { w with drawn := w.drawn + 1 } := by
        intro PI
        have hrep : ∀ i, (Array.replicate ops.size false).getD i false = false := fun i => by
          simp only [Array.getD_eq_getD_getElem?, Array.getElem?_replicate]
          split <;> rfl
        have hno : ∀ {i : Nat} {Q : Prop}, (Array.replicate ops.size false).getD i false = true → Q := fun {i Q} hi => by rw [hrep i] at hi; cases hi
        have hz : ∀ {i : Nat} {Q : Prop}, Nat.testBit 0 i = true → Q := fun {i Q} hi => by simp at hi
        exact {
          lsz := by simp
          LX := fun i hi => hno hi
          down := fun i r j _ hi => hno hi
          XR := fun i hi => hz hi
          downX := fun i r j _ hi => hz hi
          env := fun t ht => .inr ⟨fun i r _ hi => hz hi, rfl⟩
          real := fun i r t _ hi => hno hi
          rest := fun t _ => rfl
          size := hF.size
          dfr := hF.dfr
          pend := fun i r _ hi => hz hi
          nbne := fun i j b hi => by cases hi
          nblt := fun j b hj => by cases hj
          rel := H.drawn _
          ext := Ext.refl ρ s
          below := Below.drawn _ }
      have htodo : todo ops.size (Array.replicate ops.size false) ≤ ops.size := by
        unfold todo
        have := List.countP_le_length (p := fun i => !((Array.replicate ops.size false).getD i false)) (l := List.range ops.size)
        simpa using this
      cases hins : Nat.beq (insOf (rowsOf ops)) 0 with
      | true =>
        rw [hins, cond_true] at h
        obtain ⟨sv', nb', ps', fr1, s1, I1, hp1, hk1⟩ := stage_sound (fun _ _ _ _ _ h => h) F 0 _ _ _ _ _ _ _ _ dEnd hmem0 hst h (start noPI)
        exact draw_sound hP hC F hF.env hG hok' hnd' _ dEnd sv' nb' ps' fr1 s1 hmem hd2 hk1 hp1 ops.size ρ _ a _ I1 htodo
      | false =>
        rw [hins, cond_false] at h
        have J : InvQ P ops (rowsOf ops) ρ s w N n fr a 0 (fun _ => .bad) (fun _ => none) [] [] fr s ρ (Array.replicate ops.size false) a { w with drawn := w.drawn + 1 } :=
          ⟨start _, List.nodup_nil, fun b hb => (by cases hb), fun j q _ _ hd => (by simp at hd)⟩
        obtain ⟨sv', nb', ps', ms', fr1, s1, J1, hp1, hk1⟩ := stageQ_sound F 0 _ _ _ _ _ _ _ _ _ dEnd hmem0 hst h J
        refine drawQ_sound hP hC F hF.env hG hok' hnd' (fun i r hr hk => ?_) _ dEnd sv' nb' ps' ms' fr1 s1 hmem hd2 hk1 hp1 ops.size ρ _ a _ J1 htodo
        have hri := (rowsOf_get hr)
        have := insOf_bit (rowsOf ops) r (List.mem_of_getElem? hr) (by unfold isIns; rw [hri.2.2, hk]; rfl)
        rw [hri.1] at this
        exact this
    · cases hd2
end Go.Sh
