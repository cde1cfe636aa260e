/- Part of a proof that a closed law answers true: the evaluator of the first text is sound; this text is one step of it. No condition. -/
import Derived.Test.YtbnplpeodjknaaaGreatDoorShL
set_option linter.unusedSectionVars false
set_option linter.unusedSimpArgs false
set_option linter.unusedVariables false
namespace Go.Sh
variable [Opq]
open Go.RowKit (Below)
variable {I : Rho → World → Prop}
variable {P : Program} {ρ : Rho} {N : Bound I} {s : St} {w : World} {k0 : Prop}

/-! ## len, cap, min, max -/
theorem ER.len {ρ : Rho} : ∀ {xs : List (SV × SV × Nat)} {l : List MapEntry}, ER ρ xs l → l.length = xs.length
  | [], l, h => by simp only [ER] at h; subst h; rfl
  | x :: xs, l, h => by
    simp only [ER] at h
    obtain ⟨e, es, _, _, _, h4, rfl⟩ := h
    simp [ER.len h4]
theorem rN_RR (H : Rel ρ N s w) {n : Option Nat} {why : String} {res : Result Next} (h : ∀ m, n = some m → res = .ok (.value (.int .i64 m)) w) : RR P ρ N s w k0 res (rN n s why) := by
  unfold rN
  split
  · rename_i m
    exact RV.pure H (h m rfl) (by simp [VR])
  · exact trivial
theorem lenQ_sound (H : Rel ρ N s w) {ts : Array TypeId} {t : TypeId} (h0 : ts[0]? = some t) {ty : TypeId} {i : Nat} {res : Result Next} (h : ∀ v, (Builtin.len_ ts ty #[Opq.val i]).run P w = .ok v w → res = .ok (.value v) w) : RR P ρ N s w k0 res (lenQ P t i s) := by
  unfold lenQ
  split
  · rename_i hu
    cases hb : Nat.ble (Nat.succ i) 100 with
    | false => exact trivial
    | true =>
      have hi : i < 100 := Nat.le_of_ble_eq_true hb
      obtain ⟨a, ha⟩ := Opq.str i hi
      exact RV.pure H (h (.int .i64 a.size) (by rw [ha]; simp [Builtin.len_, h0, run_underlying hu, goInt])) (by simp only [VR]; exact (Opq.lenS i a hi ha).symm)
  · rename_i e hu
    cases hb : (Nat.ble 100 i && Nat.ble (Nat.succ i) 200) with
    | false => exact trivial
    | true =>
      rw [Bool.and_eq_true] at hb
      have h1 := Nat.le_of_ble_eq_true hb.1
      have h2 : i < 200 := Nat.le_of_ble_eq_true hb.2
      obtain ⟨a, l, c, ha⟩ := Opq.slc i h1 h2
      exact RV.pure H (h (.int .i64 l) (by rw [ha]; simp [Builtin.len_, h0, run_underlying hu, goInt])) (by simp only [VR]; exact (Opq.lenL i a l c h1 h2 ha).symm)
  · exact trivial
theorem len_sound (H : Rel ρ N s w) {ts : Array TypeId} {t : TypeId} (h0 : ts[0]? = some t) {x : SV} {vx : Value} {ty : TypeId} (hx : x ≠ .bad → VR ρ x vx) {m : Nat} (h : lenV P s t x = some m) :
    (Builtin.len_ ts ty #[vx]).run P w = .ok (.int .i64 m) w := by
  unfold lenV at h
  split at h
  · rename_i hu
    split at h
    · cases h
      have := hx (by simp)
      simp only [VR] at this
      obtain ⟨a, rfl, ha⟩ := this
      simp [Builtin.len_, h0, run_underlying hu, goInt, ha.1]
    · cases h
  · rename_i n e hu
    cases h
    simp [Builtin.len_, h0, run_underlying hu, goInt]
  · rename_i a hu
    split at h
    · rename_i n e hu2
      cases h
      simp [Builtin.len_, h0, run_underlying hu, run_underlying hu2, goInt]
    · cases h
  · rename_i e hu
    split at h
    · cases h
      have := hx (by simp)
      simp only [VR] at this
      subst this
      simp [Builtin.len_, h0, run_underlying hu, goInt]
    · cases h
      have := hx (by simp)
      simp only [VR] at this
      obtain ⟨a, cap, rfl⟩ := this
      simp [Builtin.len_, h0, run_underlying hu, goInt]
    · cases h
      have := hx (by simp)
      simp only [VR] at this
      obtain ⟨_, _, _, _, rfl⟩ := this
      simp [Builtin.len_, h0, run_underlying hu, goInt]
    · cases h
      have := hx (by simp)
      simp only [VR] at this
      obtain ⟨_, _, _, _, _, _, _, rfl⟩ := this
      simp [Builtin.len_, h0, run_underlying hu, goInt]
    · cases h
  · rename_i k e hu
    split at h
    · cases h
      have := hx (by simp)
      simp only [VR] at this
      subst this
      simp [Builtin.len_, h0, run_underlying hu, goInt]
    · rename_i b
      split at h
      · rename_i es clock hg
        cases h
        have := hx (by simp)
        simp only [VR] at this
        obtain ⟨r, base, e', hb, rfl⟩ := this
        have hL := H.live _ _ _ _ hb
        rw [hg] at hL
        obtain ⟨es', ho, her⟩ := hL
        have hl := her.len
        simp only [Array.length_toList] at hl
        simp [Builtin.len_, h0, run_underlying hu, goInt, getObj, Sem.run, ho, hl]
      · cases h
    · cases h
  · cases h
theorem cap_sound (H : Rel ρ N s w) {ts : Array TypeId} {t : TypeId} (h0 : ts[0]? = some t) {x : SV} {vx : Value} {ty : TypeId} (hx : x ≠ .bad → VR ρ x vx) {res : Result Next}
    (hres : ∀ v w', (Builtin.cap_ ts ty #[vx]).run P w = .ok v w' → res = .ok (.value v) w') : RR P ρ N s w k0 res (capS P s t x) := by
  unfold capS
  split
  · rename_i e hu
    split
    · have := hx (by simp)
      simp only [VR] at this
      subst this
      exact RV.pure H (hres (.int .i64 0) w (by simp [Builtin.cap_, h0, run_underlying hu, goInt])) (by simp [VR])
    · have := hx (by simp)
      simp only [VR] at this
      obtain ⟨_, _, _, _, rfl⟩ := this
      rename_i c _ _ _ _
      exact RV.pure H (hres (.int .i64 c) w (by simp [Builtin.cap_, h0, run_underlying hu, goInt])) (by simp [VR])
    · have := hx (by simp)
      simp only [VR] at this
      obtain ⟨r, base, e', cap, h1, h2, h3, rfl⟩ := this
      refine RV.pure H (hres (.int .i64 cap) w (by simp [Builtin.cap_, h0, run_underlying hu, goInt])) ?_
      simp only [VR]
      exact ⟨r, base, e', cap, h1, h2, h3, rfl⟩
    · exact trivial
  · exact trivial
theorem minG_sound {ρ : Rho} {w : World} (mx : Bool) (k : IntKind) : ∀ (ys : List SV) (x : Int) (vs : List Value), minG mx k ys x ≠ .bad → VRs ρ ys vs →
    ∃ v, (vs.foldlM (if mx then Builtin.max2 else Builtin.min2) (.int k x)).run P w = .ok v w ∧ VR ρ (minG mx k ys x) v
  | [], x, vs, h, hv => by
    rw [VRs.nil_iff] at hv
    subst hv
    exact ⟨.int k x, by simp, by simp [minG, VR]⟩
  | y :: ys, x, vs, h, hv => by
    obtain ⟨u, us, h1, h2, rfl⟩ := hv.cons_inv
    simp only [minG] at h ⊢
    split at h
    · rename_i k' y'
      simp only [VR] at h1
      subst h1
      obtain ⟨v, h3, h4⟩ := minG_sound mx k ys _ us h h2
      refine ⟨v, ?_, h4⟩
      rw [List.foldlM_cons]
      cases mx with
      | true =>
        simp only [if_true, Builtin.max2, Sem.run_bind, Sem.run_pure, Result.andThen_ok]
        simp only [if_true, cond_true, ltI_eq] at h3
        rw [← h3]
        congr 3
        by_cases hlt : x < y' <;> simp [hlt]
      | false =>
        simp only [Bool.false_eq_true, if_false, Builtin.min2, Sem.run_bind, Sem.run_pure, Result.andThen_ok]
        simp only [Bool.false_eq_true, if_false, cond_false, ltI_eq] at h3
        rw [← h3]
        congr 3
        by_cases hlt : y' < x <;> simp [hlt]
    · exact absurd rfl h
theorem minS_some {mx : Bool} {args : List SV} (h : minS mx args ≠ .bad) : ∃ k x rest, args = .int k x :: rest ∧ minS mx args = minG mx k rest x := by
  unfold minS at h ⊢
  split at h
  · exact absurd rfl h
  · split at h
    · exact ⟨_, _, _, rfl, rfl⟩
    · exact absurd rfl h
theorem min_sound {ts : Array TypeId} {ty : TypeId} {args : List SV} {vs : List Value} (hv : VRs ρ args vs) (h : minS false args ≠ .bad) :
    ∃ v, (Builtin.min_ ts ty vs.toArray).run P w = .ok v w ∧ VR ρ (minS false args) v := by
  obtain ⟨k, x, rest, rfl, he⟩ := minS_some h
  obtain ⟨u, us, h1, h2, rfl⟩ := hv.cons_inv
  simp only [VR] at h1
  subst h1
  rw [he] at h ⊢
  obtain ⟨v, h3, h4⟩ := minG_sound (P := P) (w := w) false k rest x us h h2
  exact ⟨v, by simpa [Builtin.min_] using h3, h4⟩
theorem max_sound {ts : Array TypeId} {ty : TypeId} {args : List SV} {vs : List Value} (hv : VRs ρ args vs) (h : minS true args ≠ .bad) :
    ∃ v, (Builtin.max_ ts ty vs.toArray).run P w = .ok v w ∧ VR ρ (minS true args) v := by
  obtain ⟨k, x, rest, rfl, he⟩ := minS_some h
  obtain ⟨u, us, h1, h2, rfl⟩ := hv.cons_inv
  simp only [VR] at h1
  subst h1
  rw [he] at h ⊢
  obtain ⟨v, h3, h4⟩ := minG_sound (P := P) (w := w) true k rest x us h h2
  exact ⟨v, by simpa [Builtin.max_] using h3, h4⟩

/-! ## strings by characters -/

variable {env : En} {re : Operand → Value} {d : Option Tmp} {ty : TypeId} {pos : String} {af : Array Edge} {gd : Option (Nat × Bool)}
theorem range_sound (H : Rel ρ N s w) {t : TypeId} {x : Operand} (hx : OR ρ env re x) : RR P ρ N s w k0 ((execOp re ⟨d, .range t x, ty, pos, af, gd⟩).run P w) (exRange t x P env s) := by
  unfold exRange
  split
  · rename_i len n hu hv
    have h := hx (by rw [hv]; simp)
    rw [hv] at h
    simp only [VR] at h
    obtain ⟨a, hre, hsr⟩ := h
    refine ⟨ρ.add s.nx (w.heap.size, 0, 0), .pointer (some ⟨w.heap.size, 0, none⟩), newB w (.stringIter a 0), ?_, ?_, H.new (base := 0) (e := 0) ⟨rfl, a, rfl, hsr.1, hsr.2⟩, Ext.new H _ _, Below.newB H.size, fun _ hn => absurd hn (by show Nat.succ s.nx ≠ s.nx; omega)⟩
    · simp only [execOp, hre]
      apply run_v
      simp [Instr.range, run_underlying hu, newB]
    · simp only [VR]
      exact ⟨w.heap.size, 0, 0, Rho.add_self _ _ _, rfl⟩
  · exact trivial
theorem run_setObj (w : World) (r : Nat) (o o' : Obj) (h : w.heap[r]? = some o') (hc : ∀ c e f, o' ≠ .cells c e f) : (setObj r o).run P w = .ok () (putB w r o) := by
  cases o' <;> first | (exact absurd rfl (hc _ _ _)) | simp [setObj, Sem.run, putB, h]
theorem run_getObj (w : World) (r : Nat) (o : Obj) (h : w.heap[r]? = some o) (hc : ∀ c e f, o ≠ .cells c e f) : (getObj r).run P w = .ok o w := by
  cases o <;> first | (exact absurd rfl (hc _ _ _)) | simp [getObj, Sem.run, h]
theorem tup3 {ρ : Rho} {x y z : SV} {u v t : Value} (hx : VR ρ x u) (hy : VR ρ y v) (hz : VR ρ z t) : VR ρ (.tup [x, y, z]) (.tuple #[u, v, t]) := by
  simp only [VR]; exact ⟨[u, v, t], VRs.cons hx (VRs.cons hy (VRs.cons hz VRs.nil)), rfl⟩
theorem next_sound (H : Rel ρ N s w) {it : Operand} {isStr : Bool} (hx : OR ρ env re it) (hk : ¬ k0) : RR P ρ N s w k0 ((execOp re ⟨d, .next it isStr, ty, pos, af, gd⟩).run P w) (exNext it isStr P env s) := by
  unfold exNext
  split
  · rename_i b hv
    have h := hx (by rw [hv]; simp)
    rw [hv] at h
    simp only [VR] at h
    obtain ⟨r, base, e, hb, hre⟩ := h
    unfold nextS
    split
    · rename_i len n ps hg
      have hL := H.live _ _ _ _ hb
      rw [hg] at hL
      obtain ⟨rfl, a, ho, hsr1, hsr2⟩ := hL
      have hw : writable (s.h.get b) = true := by rw [hg]; rfl
      have hgo := run_getObj (P := P) w r _ ho (by simp)
      cases hl : Nat.ble (Nat.succ ps) len with
      | true =>
        have hlt : ps < a.size := by rw [hsr1]; exact Nat.le_of_ble_eq_true hl
        rw [cond_true]
        have hdec := decS_eq (a := a) ⟨hsr1, hsr2⟩ ps
        rw [hdec]
        rcases hcw : Utf8.decode a ps with ⟨c, wd⟩
        have hso := run_setObj (P := P) w r (.stringIter a (ps + wd)) _ ho (by simp)
        refine ⟨ρ, .tuple #[.bool true, .int .i64 ps, .int .i32 c], putB w r (.stringIter a (ps + wd)), ?_, tup3 (vrBool true) (vrInt _ _) (vrInt _ _), H.put hb hw ⟨rfl, a, rfl, hsr1, hsr2⟩, Ext.put H hb _, Below.putB (H.low _ _ _ _ hb hw), fun h => absurd h hk⟩
        simp only [execOp, hre]
        apply run_v
        simp only [Instr.next, Sem.run_bind, hgo, Result.andThen_ok]
        simp [hlt, hcw, hso, goInt]
      | false =>
        have hnlt : ¬ ps < a.size := fun h => by
          rw [hsr1] at h
          have : Nat.ble (Nat.succ ps) len = true := Nat.ble_eq_true_of_le h
          rw [this] at hl; cases hl
        rw [cond_false]
        refine RV.pure H (v := .tuple #[.bool false]) ?_ (by simp only [VR]; exact ⟨[.bool false], VRs.cons (vrBool false) VRs.nil, rfl⟩)
        simp only [execOp, hre]
        apply run_v
        simp only [Instr.next, Sem.run_bind, hgo, Result.andThen_ok]
        simp [hnlt]
    · exact trivial
  · exact trivial
end Go.Sh
