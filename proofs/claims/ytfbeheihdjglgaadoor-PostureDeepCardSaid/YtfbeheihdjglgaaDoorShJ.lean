/- Part of a proof about calls of this program: the evaluator of the first text is sound; this text is one step of it. No condition. -/
import Derived.Test.YtfbeheihdjglgaaDoorShI
import Derived.Laws.Append
set_option linter.unusedSectionVars false
set_option linter.unusedSimpArgs false
set_option linter.unusedVariables false
namespace Go.Sh
variable [Opq]
open Go.RowKit (Below)
variable {I : Rho → World → Prop}
variable {P : Program} {ρ : Rho} {N : Bound I} {s : St} {w : World} {k0 : Prop}

def ZAt (i : TypeInfo) : Prop := ∃ z, i.zero = some z ∧ z.cells.size = i.size
theorem zokB_ok {i : TypeInfo} (h : zokB i = true) : ZAt i := by
  unfold zokB at h
  split at h
  · rename_i z hz; exact ⟨z, hz, Nat.eq_of_beq_eq_true h⟩
  · cases h

/-! ## what is appended or copied -/
theorem srcS_sound (H : Rel ρ N s w) {sz n : Nat} {y : SV} {new : List SV} {v : Value} (h : srcS s sz y = some (n, new)) (hv : y ≠ .bad → VR ρ y v) :
    new.length = n * sz ∧ (∀ w, (Builtin.lenOf v).run P w = .ok n w) ∧ ∃ l : List Value, VRs ρ new l ∧ (Builtin.firstCells sz n v).run P w = .ok l.toArray w := by
  have rd : ∀ b off len r base e cap ds, readN s b off (Nat.mul len sz) = some ds → ρ b = some (r, base, e) → ds.length = len * sz ∧ ∃ l : List Value, VRs ρ ds l ∧ (Builtin.firstCells sz len (.slice (some ⟨r, base + off, none⟩) len cap)).run P w = .ok l.toArray w := by
    intro b off len r base e cap ds hr hb
    obtain ⟨l, h1, h2⟩ := readN_sound (P := P) H hr hb
    refine ⟨?_, l, h2, by simp only [Builtin.firstCells]; exact h1⟩
    unfold readN at hr
    split at hr
    · obtain ⟨q1, q2⟩ := takeN_some _ _ _ hr
      rw [q1, List.length_take]
      show min (len * sz) _ = len * sz
      have : len * sz ≤ _ := q2
      omega
    · cases hr
  unfold srcS at h
  split at h
  · cases h
    have := hv (by simp)
    simp only [VR] at this
    subst this
    exact ⟨by simp, fun w => by simp [Builtin.lenOf], [], VRs.nil, by simp [Builtin.firstCells]⟩
  · cases h
    have := hv (by simp)
    simp only [VR] at this
    obtain ⟨a, cap, rfl⟩ := this
    exact ⟨by simp, fun w => by simp [Builtin.lenOf], [], VRs.nil, by simp [Builtin.firstCells, loadCells, loadCellsFrom]⟩
  · rename_i b off len cap
    split at h
    · rename_i cs hr
      cases h
      have := hv (by simp)
      simp only [VR] at this
      obtain ⟨r, base, e, hb, rfl⟩ := this
      obtain ⟨h1, h2⟩ := rd b off n r base e cap new hr hb
      exact ⟨h1, fun w => by simp [Builtin.lenOf], h2⟩
    · cases h
  · rename_i b off len z
    split at h
    · rename_i cs hr
      cases h
      have := hv (by simp)
      simp only [VR] at this
      obtain ⟨r, base, e, cap, hb, _, _, rfl⟩ := this
      obtain ⟨h1, h2⟩ := rd b off n r base e cap new hr hb
      exact ⟨h1, fun w => by simp [Builtin.lenOf], h2⟩
    · cases h
  · rename_i l m
    cases hs : Nat.beq sz 1 with
    | false => rw [hs] at h; simp at h
    | true =>
      have := Nat.eq_of_beq_eq_true hs
      subst this
      rw [hs, cond_true] at h
      cases h
      have := hv (by simp)
      simp only [VR] at this
      obtain ⟨a, rfl, ha⟩ := this
      have hb := bytesSV_sound (ρ := ρ) a.data.toList
      rw [SR.len ha, ha.2] at hb
      refine ⟨by rw [bytesSV_len]; omega, fun w => by simp [Builtin.lenOf, ha.1], _, hb, ?_⟩
      simp only [Builtin.firstCells]
      have : a.extract 0 n = a := by rw [← ha.1]; simp
      rw [this]
      simp only [Sem.run_pure]
      congr 1
      apply Array.ext'
      rw [Array.toList_map]
      rfl
  · cases h

/-! ## append -/
theorem growBy_le (n : Nat) : ∀ (r c : Nat), Builtin.growBy n r c ≤ (c + 768) * 2 ^ r
  | 0, c => by simp [Builtin.growBy]
  | r + 1, c => by
    simp only [Builtin.growBy]
    have hp : 2 ^ (r + 1) = 2 * 2 ^ r := by rw [Nat.pow_succ]; omega
    have h1 : 1 ≤ 2 ^ r := Nat.one_le_two_pow
    split
    · rw [hp]
      have : (c + 768) * 1 ≤ (c + 768) * (2 * 2 ^ r) := Nat.mul_le_mul_left _ (by omega)
      omega
    · have := growBy_le n r (c + (c + 768) / 4)
      have h2 : (c + (c + 768) / 4 + 768) * 2 ^ r ≤ (2 * (c + 768)) * 2 ^ r := Nat.mul_le_mul_right _ (by omega)
      rw [hp]
      have h3 : (2 * (c + 768)) * 2 ^ r = (c + 768) * (2 * 2 ^ r) := by rw [Nat.mul_comm 2 (c + 768), Nat.mul_assoc]
      omega
theorem cap_fits {need cap bytes : Nat} (h1 : need ≤ 2097152) (h2 : cap < need) (h3 : bytes ≤ 1048576) : Builtin.nextslicecap need cap * bytes ≤ 281474976710656 := by
  have hn : Builtin.nextslicecap need cap ≤ 33566720 := by
    unfold Builtin.nextslicecap
    split
    · omega
    · split
      · omega
      · have h4 : Builtin.growBy need 4 cap ≤ (cap + 768) * 16 := growBy_le need 4 cap
        have h5 : (cap + 768) * 16 ≤ 2097920 * 16 := Nat.mul_le_mul_right _ (by omega)
        exact Nat.le_trans h4 (Nat.le_trans h5 (by decide))
  exact Nat.le_trans (Nat.mul_le_mul hn h3) (by decide)
theorem grownCap_ge (w : World) (need old : Nat) (e : TypeId) : need ≤ grownCap w need old e := by unfold grownCap; simp [Question.cut]
section
variable {t u e : TypeId} {i : TypeInfo} {du : TypeDesc} {ts : Array TypeId} {ty : TypeId}
set_option maxHeartbeats 4000000 in
theorem append_room (h0 : ts[0]? = some t) (h1 : ts[1]? = some u) (ht : P.underlying t = some (.slice e)) (hu : P.underlying u = some du) (hdu : isIntD du = false) (hi : P.info? e = some i)
    {base : Option Addr} {sLen sCap n : Nat} {x : Value} (hlen : ∀ w, (Builtin.lenOf x).run P w = .ok n w) (hr : sLen + n ≤ sCap) {new : Array Value} (hnew : (Builtin.firstCells i.size n x).run P w = .ok new w) {w' : World}
    (hst : (match base with | some a => storeCells (a.add (sLen * i.size)) new.toList | none => pure () : Sem Unit).run P w = .ok () w') :
    (Builtin.append_ ts ty #[.slice base sLen sCap, x]).run P w = .ok (.slice base (sLen + n) sCap) w' := by
  cases base with
  | none =>
    simp at hst
    subst hst
    cases du <;> first | (simp [isIntD] at hdu; done) | simp [Builtin.append_, h0, h1, run_underlying ht, run_underlying hu, sizeOf, typeInfo, hi, hlen, hr, hnew]
  | some a =>
    simp only at hst
    cases du <;> first | (simp [isIntD] at hdu; done) | simp [Builtin.append_, h0, h1, run_underlying ht, run_underlying hu, sizeOf, typeInfo, hi, hlen, hr, hnew, hst]
set_option maxHeartbeats 4000000 in
theorem append_grow (h0 : ts[0]? = some t) (h1 : ts[1]? = some u) (ht : P.underlying t = some (.slice e)) (hu : P.underlying u = some du) (hdu : isIntD du = false) (hi : P.info? e = some i) {z : Value} (hz : i.zero = some z)
    {base : Option Addr} {sLen sCap n : Nat} {x : Value} (hlen : ∀ w, (Builtin.lenOf x).run P w = .ok n w) (hr : sCap < sLen + n) (hsm : sLen + n ≤ 2097152) (hby : i.bytes ≤ 1048576) {old new : Array Value} (hold : (Builtin.firstCells i.size sLen (.slice base sLen sCap)).run P w.drew = .ok old w.drew)
    (hnew : (Builtin.firstCells i.size n x).run P w.drew = .ok new w.drew) :
    (Builtin.append_ ts ty #[.slice base sLen sCap, x]).run P w = .ok (.slice (some ⟨w.heap.size, 0, none⟩) (sLen + n) (grownCap w (sLen + n) sCap e))
        (w.drew.alloc (.cells (old ++ new ++ Builtin.zeroCells z.cells (grownCap w (sLen + n) sCap e - (sLen + n))) e)) := by
  have hn : ¬ (sLen + n ≤ sCap) := by omega
  have h63' : ¬ (9223372036854775807 < ((sLen : Int) + (n : Int))) := by omega
  have h48' : ¬ (281474976710656 < Builtin.nextslicecap (sLen + n) sCap * i.bytes) := by have := cap_fits hsm hr hby; omega
  cases du <;> first | (simp [isIntD] at hdu; done) | simp [Builtin.append_, h0, h1, run_underlying ht, run_underlying hu, sizeOf, typeInfo, zeroValue, hi, hz, hlen, hn, h63', h48', Question.forced, hold, hnew, newRow, grownCap]

/-- the same, where zeros are appended -/
theorem cond_len (n : Nat) (h : n ≤ 1048576) : IntKind.i64.wrap (n : Int) = (n : Int) := by rw [IntKind.wrap_i64]; omega
set_option maxHeartbeats 4000000 in
theorem append0_room {ki : IntKind} (h0 : ts[0]? = some t) (h1 : ts[1]? = some u) (ht : P.underlying t = some (.slice e)) (hu : P.underlying u = some (.int ki)) (hi : P.info? e = some i) {z : Value} (hz : i.zero = some z) (hzs : z.cells.size = i.size)
    {base : Option Addr} {sLen sCap n : Nat} {k : IntKind} (hn : n ≤ 1048576) (hby : i.bytes ≤ 1048576) (hr : sLen + n ≤ sCap) {w' : World}
    (hst : (match base with | some a => storeCells (a.add (sLen * i.size)) (Builtin.zeroCells z.cells n).toList | none => pure () : Sem Unit).run P w = .ok () w') :
    (Builtin.append_ ts ty #[.slice base sLen sCap, .int k n]).run P w = .ok (.slice base (sLen + n) sCap) w' := by
  have hw := cond_len n hn
  have n1 : ¬ ((n : Int) < 0) := by omega
  have hb : (n : Int) * (i.bytes : Int) ≤ 281474976710656 := by
    have h1 : n * i.bytes ≤ 1048576 * 1048576 := Nat.mul_le_mul hn hby
    have h2 : ((n * i.bytes : Nat) : Int) = (n : Int) * (i.bytes : Int) := Int.natCast_mul _ _
    rw [← h2]; omega
  have n2 : ¬ (281474976710656 < (n : Int) * (i.bytes : Int)) := by omega
  by_cases h0' : n * i.size = 0
  · have hzc : Builtin.zeroCells z.cells n = #[] := by
      apply Array.eq_empty_of_size_eq_zero
      simp [Builtin.zeroCells, hzs, h0']
    rw [hzc] at hst
    cases base with
    | none =>
      simp at hst
      subst hst
      simp [Builtin.append_, h0, h1, run_underlying ht, run_underlying hu, sizeOf, typeInfo, hi, asInt, asIntOf, hw, n1, n2, hr, h0']
    | some a =>
      have hst' : (storeCells (a.add (sLen * i.size)) []).run P w = .ok () w' := by simpa using hst
      simp [Builtin.append_, h0, h1, run_underlying ht, run_underlying hu, sizeOf, typeInfo, hi, asInt, asIntOf, hw, n1, n2, hr, h0', hst']
  · cases base with
    | none =>
      simp at hst
      subst hst
      simp [Builtin.append_, h0, h1, run_underlying ht, run_underlying hu, sizeOf, typeInfo, zeroValue, hi, hz, asInt, asIntOf, hw, n1, n2, hr]
    | some a =>
      simp only at hst
      simp [Builtin.append_, h0, h1, run_underlying ht, run_underlying hu, sizeOf, typeInfo, zeroValue, hi, hz, asInt, asIntOf, hw, n1, n2, hr, h0', hst]
set_option maxHeartbeats 4000000 in
theorem append0_grow {ki : IntKind} (h0 : ts[0]? = some t) (h1 : ts[1]? = some u) (ht : P.underlying t = some (.slice e)) (hu : P.underlying u = some (.int ki)) (hi : P.info? e = some i) {z : Value} (hz : i.zero = some z) (hzs : z.cells.size = i.size)
    {base : Option Addr} {sLen sCap n : Nat} {k : IntKind} (hn : n ≤ 1048576) (hr : sCap < sLen + n) (hsm : sLen + n ≤ 2097152) (hby : i.bytes ≤ 1048576) {old : Array Value} (hold : (Builtin.firstCells i.size sLen (.slice base sLen sCap)).run P w.drew = .ok old w.drew) :
    (Builtin.append_ ts ty #[.slice base sLen sCap, .int k n]).run P w = .ok (.slice (some ⟨w.heap.size, 0, none⟩) (sLen + n) (grownCap w (sLen + n) sCap e))
        (w.drew.alloc (.cells (old ++ Builtin.zeroCells z.cells n ++ Builtin.zeroCells z.cells (grownCap w (sLen + n) sCap e - (sLen + n))) e)) := by
  have hw := cond_len n hn
  have n1 : ¬ ((n : Int) < 0) := by omega
  have hb : (n : Int) * (i.bytes : Int) ≤ 281474976710656 := by
    have h1 : n * i.bytes ≤ 1048576 * 1048576 := Nat.mul_le_mul hn hby
    have h2 : ((n * i.bytes : Nat) : Int) = (n : Int) * (i.bytes : Int) := Int.natCast_mul _ _
    rw [← h2]; omega
  have n2 : ¬ (281474976710656 < (n : Int) * (i.bytes : Int)) := by omega
  have hnr : ¬ (sLen + n ≤ sCap) := by omega
  have h63' : ¬ (9223372036854775807 < ((sLen : Int) + (n : Int))) := by omega
  have h48' : ¬ (281474976710656 < Builtin.nextslicecap (sLen + n) sCap * i.bytes) := by have := cap_fits hsm hr hby; omega
  by_cases h0' : n * i.size = 0
  · have hzc : Builtin.zeroCells z.cells n = #[] := by
      apply Array.eq_empty_of_size_eq_zero
      simp [Builtin.zeroCells, hzs, h0']
    rw [hzc]
    simp [Builtin.append_, h0, h1, run_underlying ht, run_underlying hu, sizeOf, typeInfo, zeroValue, hi, hz, asInt, asIntOf, hw, n1, n2, hnr, h63', h48', Question.forced, hold, h0', newRow, grownCap]
  · simp [Builtin.append_, h0, h1, run_underlying ht, run_underlying hu, sizeOf, typeInfo, zeroValue, hi, hz, asInt, asIntOf, hw, n1, n2, hnr, h63', h48', Question.forced, hold, h0', newRow, grownCap]
end
end Go.Sh
