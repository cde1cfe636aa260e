/- Part of a proof that a closed law answers true: the evaluator of the first text is sound; this text is one step of it. No condition. -/
import Derived.Test.YtbnplpeodjknaaaGreatDoorShJ
set_option linter.unusedSectionVars false
set_option linter.unusedSimpArgs false
set_option linter.unusedVariables false
namespace Go.Sh
variable [Opq]
open Go.RowKit (Below)
variable {I : Rho → World → Prop}
variable {P : Program} {ρ : Rho} {N : Bound I} {s : St} {w : World} {k0 : Prop}
theorem pure_none_run {P : Program} {w : World} : ((pure () : Sem Unit)).run P w = .ok () w := rfl
theorem allOne_append : ∀ {a b : List SV}, allOne a = true → allOne b = true → allOne (a ++ b) = true
  | [], _, _, h => h
  | x :: a, b, h, k => by
    simp only [allOne, List.cons_append] at h ⊢
    cases hx : oneC x with
    | false => rw [hx] at h; simp at h
    | true => rw [hx] at h; simp only [cond_true] at h ⊢; exact allOne_append h k
/-- a block that has just been grown -/
theorem BR.grown {e fzn : Nat} {st : Bool} {xs : List SV} {cs rest : Array Value} (h : VRs ρ xs cs.toList) : BR ρ 0 (cs.size + rest.size) (.opn e xs big fzn st) (some (.cells (cs ++ rest) e (0, 0))) := by
  have hl := h.len
  simp only [Array.length_toList] at hl
  refine ⟨cs ++ rest, (0, 0), rfl, by simp, by omega, fun k => absurd k (Nat.lt_irrefl _), ?_, fun i _ _ k => absurd k.2 (Nat.not_lt_zero _), fun _ => Nat.zero_le _⟩
  intro i x hx
  obtain ⟨v, h1, h2⟩ := h.get i x hx
  have hlt := (List.getElem?_eq_some_iff.1 h1).1
  simp only [Array.length_toList] at hlt
  refine ⟨v, ?_, h2⟩
  rw [Nat.zero_add, Array.getElem?_append_left hlt, ← Array.getElem?_toList]
  exact h1
theorem small_le {a b : Nat} (h : small a b = true) : a ≤ 1048576 ∧ b ≤ 1048576 := by
  unfold small at h
  rw [Bool.and_eq_true] at h
  exact ⟨Nat.le_of_ble_eq_true h.1, Nat.le_of_ble_eq_true h.2⟩
/-- what is appended: the model's side, for either kind of second operand -/
structure Src (P : Program) (w : World) (ts : Array TypeId) (i : TypeInfo) (e t : TypeId) (x : Value) (n : Nat) (new : Array Value) : Prop where
  room : ∀ {ty : TypeId} {base : Option Addr} {sLen sCap : Nat} {w' : World}, sLen + n ≤ sCap →
    (match base with | some a => storeCells (a.add (sLen * i.size)) new.toList | none => pure () : Sem Unit).run P w = .ok () w' →
    (Builtin.append_ ts ty #[.slice base sLen sCap, x]).run P w = .ok (.slice base (sLen + n) sCap) w'
structure SrcG (P : Program) (w : World) (ts : Array TypeId) (i : TypeInfo) (e t : TypeId) (x : Value) (n : Nat) (new : Array Value) : Prop where
  grow : ∀ {ty : TypeId} {base : Option Addr} {sLen sCap : Nat} {z : Value} {old : Array Value}, i.zero = some z → sCap < sLen + n → sLen + n ≤ 2097152 → i.bytes ≤ 1048576 →
    (Builtin.firstCells i.size sLen (.slice base sLen sCap)).run P w.drew = .ok old w.drew →
    (Builtin.append_ ts ty #[.slice base sLen sCap, x]).run P w = .ok (.slice (some ⟨w.heap.size, 0, none⟩) (sLen + n) (grownCap w (sLen + n) sCap e))
        (w.drew.alloc (.cells (old ++ new ++ Builtin.zeroCells z.cells (grownCap w (sLen + n) sCap e - (sLen + n))) e))
theorem zeroCells_size (z : Array Value) (n : Nat) : (Builtin.zeroCells z n).size = n * z.size := by simp [Builtin.zeroCells]
/-- the outcome of a growth -/
theorem grow_out' {s1 : St} {fzn : Nat} {st : Bool} (H : Rel ρ N s1 w) (hE : Ext ρ s ρ s1) (hnx : s1.nx = s.nx) {i : TypeInfo} (hZ : ZAt i) {e : TypeId} (_hi : P.info? e = some i) {need sCap : Nat} {xs : List SV} {old new : Array Value} {z : Value} (hz : i.zero = some z) (hv : VRs ρ xs (old ++ new).toList) (hlen : xs.length = need * i.size)
    {res : Result Next} (hres : res = .ok (.value (.slice (some ⟨w.heap.size, 0, none⟩) need (grownCap w need sCap e))) (w.drew.alloc (.cells (old ++ new ++ Builtin.zeroCells z.cells (grownCap w need sCap e - need)) e))) :
    RV ρ N s w k0 res (.slo s.nx 0 need i.size) (s1.new (.opn e xs big fzn st)) := by
  obtain ⟨z', hz', hzs⟩ := hZ
  rw [hz] at hz'; cases hz'
  have hge := grownCap_ge w need sCap e
  have hB := BR.grown (ρ := ρ) (e := e) (fzn := fzn) (st := st) (rest := Builtin.zeroCells z.cells (grownCap w need sCap e - need)) hv
  have hl := hv.len
  simp only [Array.length_toList] at hl
  have hsz : (old ++ new).size + (Builtin.zeroCells z.cells (grownCap w need sCap e - need)).size = grownCap w need sCap e * i.size := by
    rw [zeroCells_size, hl, hlen, hzs, ← Nat.add_mul]
    congr 1
    omega
  rw [hsz] at hB
  rw [← hnx]
  refine ⟨ρ.add s1.nx (w.heap.size, 0, grownCap w need sCap e * i.size), _, _, hres, ?_, (H.drew).new hB, hE.trans (Ext.new H _ _), Below.newDrew H.size _, fun _ hn => absurd hn (by show Nat.succ s1.nx ≠ s.nx; omega)⟩
  simp only [VR]
  exact ⟨w.heap.size, 0, grownCap w need sCap e * i.size, grownCap w need sCap e, Rho.add_self _ _ _, hge, by omega, rfl⟩
theorem grow_out (H : Rel ρ N s w) {i : TypeInfo} (hZ : ZAt i) {e : TypeId} (hi : P.info? e = some i) {need sCap : Nat} {xs : List SV} {old new : Array Value} {z : Value} (hz : i.zero = some z) (hv : VRs ρ xs (old ++ new).toList) (hlen : xs.length = need * i.size)
    {res : Result Next} (hres : res = .ok (.value (.slice (some ⟨w.heap.size, 0, none⟩) need (grownCap w need sCap e))) (w.drew.alloc (.cells (old ++ new ++ Builtin.zeroCells z.cells (grownCap w need sCap e - need)) e))) :
    RV ρ N s w k0 res (.slo s.nx 0 need i.size) (s.new (.opn e xs big 0 false)) := grow_out' H (Ext.refl ρ s) rfl hZ hi hz hv hlen hres
/-- the outcome of an append in place -/
theorem in_out (H : Rel ρ N s w) {b off sLen sCap n r base e : Nat} {i : TypeInfo} {x : SV} {xs : List SV} {new : Array Value} {ts : Array TypeId} {et t : TypeId} {y : Value} {ty : TypeId} (hb : ρ b = some (r, base, e)) (S : Src P w ts i et t y n new) (hv : VRs ρ xs new.toList)
    (hroom : sLen + n ≤ sCap) (hx : VR ρ x (.slice (some ⟨r, base + off, none⟩) (sLen + n) sCap)) {res : Result Next}
    (hres : ∀ v w', (Builtin.append_ ts ty #[.slice (some ⟨r, base + off, none⟩) sLen sCap, y]).run P w = .ok v w' → res = .ok (.value v) w') (hk : ¬ k0) :
    RR P ρ N s w k0 res (appIn s b (Nat.add off (Nat.mul sLen i.size)) x xs) := by
  unfold appIn
  split
  · rename_i s' hw
    obtain ⟨w', h1, h2, h3, h4⟩ := write_sound (P := P) H hw hb hv
    refine ⟨ρ, _, w', hres _ _ (S.room hroom ?_), hx, h2, h3, h4, fun h => absurd h hk⟩
    simp only [add_addr]
    have : base + off + sLen * i.size = base + Nat.add off (Nat.mul sLen i.size) := by rw [Nat.add_assoc]; rfl
    rw [this]
    exact h1
  · exact trivial
/-- cells that a block has behind those that are known: written at the end of what is known -/
theorem past_write (H : Rel ρ N s w) {b r base e : Nat} {ty fz ub : Nat} {st : Bool} {cs xs : List SV} (hg : s.h.get b = .opn ty cs ub fz st) (hb : ρ b = some (r, base, e)) {off : Nat} (hoff : off ≤ cs.length) {vs : List Value} (hv : VRs ρ xs vs) (hone : allOne xs = true)
    (hfz : fz ≤ cs.length) (hroom : base + cs.length + vs.length ≤ e) :
    ∃ w', (storeCells ⟨r, base + cs.length, none⟩ vs).run P w = .ok () w' ∧ Rel (ρ.add s.nx (r, base + off, e)) N ((s.put b .none).new (.opn ty (cs.drop off ++ xs) big (fz - off) st)) w' ∧
      Ext ρ s (ρ.add s.nx (r, base + off, e)) ((s.put b .none).new (.opn ty (cs.drop off ++ xs) big (fz - off) st)) ∧ Below N w w' := by
  have hL := H.live _ _ _ _ hb
  rw [hg] at hL
  obtain ⟨rc, fzr, ho, hsz, hlen, hub, hcr, hfr, hst⟩ := hL
  have hw : writable (s.h.get b) = true := by rw [hg]; rfl
  have hones := one_of hone hv
  have hrun := run_storeCells (P := P) vs 0 w rc ho (o := base + cs.length) (by omega) (fun i h1 h2 => hfr i (by omega) (by omega)) hones
  refine ⟨_, hrun, ?_, Ext.move H hb _ _, Below.putB (H.low _ _ _ _ hb hw)⟩
  refine H.move hb hw ?_
  have hxl := hv.len
  refine ⟨setRow rc (base + cs.length) vs, fzr, rfl, by rw [setRow_size]; exact hsz, ?_, fun k => absurd k (Nat.lt_irrefl _), ?_, ?_, ?_⟩
  · rw [List.length_append, List.length_drop]; omega
  · intro i x hx
    rw [setRow_get vs rc _ (by omega)]
    by_cases hi : i < cs.length - off
    · rw [List.getElem?_append_left (by rw [List.length_drop]; exact hi), List.getElem?_drop] at hx
      rw [if_neg (by omega)]
      obtain ⟨v, h1, h2⟩ := hcr _ x hx
      exact ⟨v, by rw [← h1]; congr 1; omega, h2⟩
    · rw [List.getElem?_append_right (by rw [List.length_drop]; omega), List.length_drop] at hx
      obtain ⟨v, h1, h2⟩ := hv.get _ x hx
      have hlt := (List.getElem?_eq_some_iff.1 h1).1
      rw [if_pos (by omega)]
      exact ⟨v, by rw [← h1]; congr 1; omega, h2⟩
  · intro i h1 h2
    exact hfr i (by omega) h2
  · intro h
    have := hst h
    omega
end Go.Sh
