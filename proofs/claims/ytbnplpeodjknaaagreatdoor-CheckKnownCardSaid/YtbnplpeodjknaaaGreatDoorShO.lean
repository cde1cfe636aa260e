/- Part of a proof that a closed law answers true: the evaluator of the first text is sound; this text is one step of it. No condition. -/
import Derived.Test.YtbnplpeodjknaaaGreatDoorShN
import Derived.Lib.UnsafeStr
set_option linter.unusedSectionVars false
set_option linter.unusedSimpArgs false
set_option linter.unusedVariables false
namespace Go.Sh
variable [Opq]
open Go.RowKit (Below)
variable {I : Rho → World → Prop}
variable {P : Program} {ρ : Rho} {N : Bound I} {s : St} {w : World} {k0 : Prop}
variable {env : En} {re : Operand → Value} {d : Option Tmp} {ty : TypeId} {pos : String} {af : Array Edge} {gd : Option (Nat × Bool)}

/-! ## calls -/
theorem anyBad_ne {l : List SV} (h : anyBad l = false) {i : Nat} {x : SV} (hx : l[i]? = some x) : x ≠ .bad := anyBad_mem h x (List.mem_of_getElem? hx)
theorem run_builtin {c : Call} {b : Builtin} (hc : c.callee = .builtin b) : ∃ consts, (execOp re ⟨d, .call c, ty, pos, af, gd⟩).run P w = (builtin b c.argTypes ty consts (c.args.map re)).run P w := by
  refine ⟨?_, ?_⟩
  rotate_left
  · simp only [execOp, resolve, hc, Sem.run_bind, Sem.run_pure, Result.andThen_ok, invoke]
    rfl
theorem list1 {ρ : Rho} {x : SV} {l : List Value} (h : VRs ρ [x] l) : ∃ v, l = [v] ∧ VR ρ x v := by
  obtain ⟨v, vs, h1, h2, rfl⟩ := h.cons_inv
  rw [VRs.nil_iff] at h2
  subst h2
  exact ⟨v, rfl, h1⟩
theorem list2 {ρ : Rho} {x y : SV} {l : List Value} (h : VRs ρ [x, y] l) : ∃ u v, l = [u, v] ∧ VR ρ x u ∧ VR ρ y v := by
  obtain ⟨u, vs, h1, h2, rfl⟩ := h.cons_inv
  obtain ⟨v, rfl, h3⟩ := list1 h2
  exact ⟨u, v, rfl, h1, h3⟩
/-! ## bytes that become a string's -/
theorem freeze_putB {w : World} {r ty : Nat} {rc : Array Value} {lo hi : Nat} (h : w.heap[r]? = some (.cells rc ty (lo, hi))) (o n : Nat) (hn : n ≠ 0) :
    w.freeze ⟨r, o, none⟩ n = putB w r (.cells rc ty (if lo == hi then (o, o + n) else (min lo o, max hi (o + n)))) := by
  have hlt : r < w.heap.size := (Array.getElem?_eq_some_iff.1 h).1
  have hg : w.heap[r] = .cells rc ty (lo, hi) := (Array.getElem?_eq_some_iff.1 h).2
  simp only [World.freeze, if_neg hn, putB]
  congr 1
  apply Array.ext_getElem?
  intro i
  simp only [Array.getElem?_modify, Array.getElem?_setIfInBounds]
  by_cases e : r = i
  · subst e; simp [hlt, hg]
  · rw [if_neg e, if_neg e]
theorem maxN_eq (a b : Nat) : maxN a b = max a b := by
  unfold maxN
  cases h : Nat.ble a b with
  | true => rw [cond_true, Nat.max_eq_right (Nat.le_of_ble_eq_true h)]
  | false =>
    rw [cond_false]
    have : ¬ a ≤ b := fun hle => by rw [Nat.ble_eq_true_of_le hle] at h; cases h
    omega
theorem liesAt_row {e cells o n : Nat} (hc : P.cellsOf e = 1) (hn : o + n ≤ cells) : liesAt P P.depth e (cells / P.cellsOf e) o e n = true := by
  have hd : P.depth = (2 * (P.types.size + Made.depth) + 1) + 1 := rfl
  rw [hd]
  simp only [liesAt, Bool.or_eq_true]
  left
  rw [hd]
  simp [rowAt, hc, hn, sameLayout, Nat.mod_one]
theorem elemS_some {ts : Array TypeId} {e : TypeId} (h : elemS P ts.toList = some e) : ∃ pt, ts[0]? = some pt ∧ P.underlying pt = some (.pointer e) ∧ P.cellsOf e = 1 := by
  unfold elemS at h
  split at h
  · rename_i t r hts
    split at h
    · rename_i e' hu
      split at h
      · rename_i hz
        cases h
        exact ⟨t, by rw [← Array.getElem?_toList, hts]; rfl, hu, size?_cellsOf hz⟩
      · cases h
    · cases h
  · cases h
theorem unsafeString_run {w : World} {ts : Array TypeId} {ty pt e : TypeId} (h0 : ts[0]? = some pt) (hp : P.underlying pt = some (.pointer e)) (hc : P.cellsOf e = 1) {r o : Nat} {rc : Array Value} {fz : Nat × Nat}
    (h : w.heap[r]? = some (.cells rc e fz)) (l : List UInt8) (hl0 : l ≠ []) (hn : o + l.length ≤ rc.size) (h63 : l.length ≤ 9223372036854775807)
    (hcell : ∀ j x, l[j]? = some x → w.cell? ((⟨r, o, none⟩ : Addr).add j) = some (.int .u8 x.toNat)) :
    (Builtin.unsafeString_ ts ty #[.pointer (some ⟨r, o, none⟩), .int .i64 l.length]).run P w = .ok (.string ⟨l.toArray⟩) (w.freeze ⟨r, o, none⟩ l.length) := by
  have hl : l.length ≠ 0 := by simpa using hl0
  have hlb := Go.Lib.run_loadBytes (P := P) w l ⟨r, o, none⟩ .empty hcell
  have hlies := liesAt_row (P := P) hc (cells := rc.size) hn
  have hsh := shape_at h
  have h63' : ¬ (9223372036854775807 : Int) < (l.length : Int) := by omega
  have hmax : IntKind.i64.max = 9223372036854775807 := rfl
  have hneg : ¬ (l.length : Int) < 0 := by omega
  have hdef : Builtin.unsafeString_ ts ty #[.pointer (some ⟨r, o, none⟩), .int .i64 l.length] =
      (do
        let n ← asInt (.int .i64 l.length)
        let some pt := ts[0]? | stuck "unsafe.String: no argument types"
        if n < 0 then runtimePanic (.error "unsafe.String: len out of range")
        if n > IntKind.i64.max then unsupported (.unsafePointer "String: a length above the largest int")
        if n = 0 then pure (.string .empty)
        else if ← variablesAt ⟨r, o, none⟩ (← elemOf pt) n.toNat then do
          let s ← loadBytes ⟨r, o, none⟩ .empty n.toNat
          freeze ⟨r, o, none⟩ n.toNat
          pure (.string s)
        else unsupported (.unsafePointer "String: not so many bytes at ptr")) := rfl
  rw [hdef]
  simp [h0, asInt, asIntOf, hmax, h63', hneg, hl, variablesAt, hsh, elemOf, run_underlying hp, hlies, hlb]
theorem unsafeString_nil {w : World} {ts : Array TypeId} {ty pt : TypeId} (h0 : ts[0]? = some pt) (p : Option Addr) : (Builtin.unsafeString_ ts ty #[.pointer p, .int .i64 0]).run P w = .ok (.string .empty) w := by
  have hmax : IntKind.i64.max = 9223372036854775807 := rfl
  cases p with
  | none =>
    have hdef : Builtin.unsafeString_ ts ty #[.pointer none, .int .i64 0] =
        (do
          let n ← asInt (.int .i64 0)
          let some pt := ts[0]? | stuck "unsafe.String: no argument types"
          if n < 0 then runtimePanic (.error "unsafe.String: len out of range")
          if n > IntKind.i64.max then unsupported (.unsafePointer "String: a length above the largest int")
          if n = 0 then pure (.string .empty)
          else runtimePanic (.error "unsafe.String: ptr is nil and len is not zero")) := rfl
    rw [hdef]
    simp [h0, asInt, asIntOf, hmax]
  | some a =>
    have hdef : Builtin.unsafeString_ ts ty #[.pointer (some a), .int .i64 0] =
        (do
          let n ← asInt (.int .i64 0)
          let some pt := ts[0]? | stuck "unsafe.String: no argument types"
          if n < 0 then runtimePanic (.error "unsafe.String: len out of range")
          if n > IntKind.i64.max then unsupported (.unsafePointer "String: a length above the largest int")
          if n = 0 then pure (.string .empty)
          else if ← variablesAt a (← elemOf pt) n.toNat then do
            let s ← loadBytes a .empty n.toNat
            freeze a n.toNat
            pure (.string s)
          else unsupported (.unsafePointer "String: not so many bytes at ptr")) := rfl
    rw [hdef]
    simp [h0, asInt, asIntOf, hmax]
theorem bytes_cells {w : World} {r o : Nat} {rc : Array Value} {ty : TypeId} {fz : Nat × Nat} (h : w.heap[r]? = some (.cells rc ty fz)) (bs : List UInt8) (hr : ∀ j, j < bs.length → rc[o + j]? = (bs.map byteV)[j]?) :
    ∀ j x, bs[j]? = some x → w.cell? ((⟨r, o, none⟩ : Addr).add j) = some (.int .u8 x.toNat) := by
  intro j x hx
  have hlt := (List.getElem?_eq_some_iff.1 hx).1
  rw [add_addr, cell_at h, hr j hlt, List.getElem?_map, hx]
  rfl
theorem stringN_sound (H : Rel ρ N s w) {ts : Array TypeId} {ty : TypeId} {b off n r base e : Nat} (hb : ρ b = some (r, base, e)) (hn0 : n ≠ 0) (hk : ¬ k0) {res : Result Next}
    (hres : ∀ v w', (Builtin.unsafeString_ ts ty #[.pointer (some ⟨r, base + off, none⟩), .int .i64 (Int.ofNat n)]).run P w = .ok v w' → res = .ok (.value v) w') : RR P ρ N s w k0 res (stringN P s ts.toList b off n) := by
  unfold stringN
  cases hbig : Nat.ble 1073741824 n with
  | true => rw [cond_true]; exact trivial
  | false =>
  rw [cond_false]
  have hsmall : n < 1073741824 := by
    rw [ble_dec] at hbig
    have := of_decide_eq_false hbig
    omega
  split
  · rename_i et het
    obtain ⟨pt, h0, hp, hc⟩ := elemS_some het
    split
    · rename_i blk hfb
      split
      · rename_i l m hso
        obtain ⟨cs, k, hcs, hpk, heq⟩ := strOf_some (len := n) (o := readN s b off n) (by rw [hso]; simp)
        rw [heq] at hso
        cases hso
        -- the block as it is
        have hL := H.live _ _ _ _ hb
        have hread := hcs
        unfold readN at hread
        split at hread
        · rename_i all hall
          obtain ⟨q1, q2⟩ := takeN_some _ _ _ hread
          rw [dropN_eq] at q1 q2
          have hlen : off + n ≤ all.length := by
            rw [List.length_drop] at q2
            omega
          have hw : writable (s.h.get b) = true := by
            cases hg : s.h.get b <;> rw [hg] at hfb <;> simp [freezeB] at hfb <;> rfl
          have main : ∀ (rc : Array Value) (fz : Nat × Nat), w.heap[r]? = some (.cells rc et fz) → CR ρ all rc base → base + off + n ≤ rc.size →
              BR ρ base e blk (some (.cells rc et (if fz.1 == fz.2 then (base + off, base + off + n) else (min fz.1 (base + off), max fz.2 (base + off + n))))) → RR P ρ N s w k0 res (.v (.str n m) (s.put b blk)) := by
            intro rc fz ho hcr hsz hBR
            have hvs : ∃ vs : List Value, VRs ρ cs vs ∧ ∀ j, j < n → rc[base + off + j]? = vs[j]? := by
              rcases hcr.read hread with ⟨h1, _⟩ | ⟨h1, _⟩
              · refine ⟨_, h1, fun j hj => ?_⟩
                rw [List.getElem?_take, if_pos hj, List.getElem?_drop, Array.getElem?_toList]
              · exact absurd h1 hn0
            obtain ⟨vs, hvs, hat⟩ := hvs
            obtain ⟨bs, rfl, hbs⟩ := packSV_sound cs m vs hpk hvs
            have hbl : bs.length = n := by
              have := hvs.len
              rw [List.length_map] at this
              rw [this, q1, List.length_take, List.length_drop]
              omega
            have hcell := bytes_cells ho bs (o := base + off) (fun j hj => hat j (by omega))
            have hrun := unsafeString_run (P := P) (ty := ty) h0 hp hc ho bs (fun e => by subst e; simp at hbl; omega) (by omega) (by omega) hcell
            rw [hbl] at hrun
            rw [freeze_putB ho (base + off) n hn0] at hrun
            refine ⟨ρ, _, _, hres _ _ hrun, ?_, H.put hb hw hBR, Ext.put H hb _, Below.putB (H.low _ _ _ _ hb hw), fun k => absurd k hk⟩
            simp only [VR]
            exact ⟨_, rfl, (by show bs.toArray.size = n; simpa using hbl), by simpa using hbs⟩
          cases hg : s.h.get b <;> rw [hg] at hfb hall hL <;> simp only [freezeB] at hfb <;> try (cases hfb)
          case cells t cs' =>
            cases hbt : Nat.beq t et with
            | false => rw [hbt] at hfb; cases hfb
            | true =>
              rw [hbt, cond_true] at hfb
              cases hfb
              obtain rfl := Nat.eq_of_beq_eq_true hbt
              simp only [readB, Option.some.injEq] at hall
              subst hall
              obtain ⟨rc, ho, hsz, hlen2, hb0, hcr⟩ := hL
              refine main rc (0, 0) ho hcr (by omega) ?_
              refine ⟨rc, _, rfl, hsz, by omega, fun _ => by omega, hcr, ?_, fun _ => ?_⟩
              · intro i h1 _ h3
                simp only [BEq.rfl, if_true, Nat.add_eq] at h1 h3
                omega
              · simp only [BEq.rfl, if_true, Nat.add_eq]
                omega
          case opn t cs' ub fz st =>
            cases st with
            | true => cases hfb
            | false =>
              simp only at hfb
              cases hbt : Nat.beq t et with
              | false => rw [hbt] at hfb; cases hfb
              | true =>
                rw [hbt, cond_true] at hfb
                cases hfb
                obtain rfl := Nat.eq_of_beq_eq_true hbt
                simp only [readB, Option.some.injEq] at hall
                subst hall
                obtain ⟨rc, fz', ho, hsz, hlen2, hub, hcr, hfree, hst⟩ := hL
                have hst' := hst rfl
                refine main rc fz' ho hcr (by omega) ?_
                refine ⟨rc, _, rfl, hsz, by omega, hub, hcr, ?_, fun _ => ?_⟩
                · intro i h1 _ h3
                  rw [maxN_eq, Nat.add_eq] at h1
                  split at h3
                  · simp only at h3; omega
                  · simp only at h3; omega
                · rw [maxN_eq, Nat.add_eq]
                  split
                  · simp only; omega
                  · simp only; omega
        · cases hread
      · exact trivial
    · exact trivial
  · exact trivial
def isPure (b : Builtin) : Prop := b = .len ∨ b = .cap ∨ b = .min ∨ b = .max
theorem builtin_sound (H : Rel ρ N s w) {b : Builtin} {ts : Array TypeId} {ty : TypeId} {consts : Array Bool} {args : List SV} {vs : Array Value} (hv : VRs ρ args vs.toList) (hk : k0 → isPure b) :
    RR P ρ N s w k0 ((builtin b ts ty consts vs).run P w) (builtinS b P s ts.toList args) := by
  have ts0 : ∀ {t : TypeId} {r : List TypeId}, ts.toList = t :: r → ts[0]? = some t := fun h => by rw [← Array.getElem?_toList, h]; rfl
  have ts1 : ∀ {t u : TypeId} {r : List TypeId}, ts.toList = t :: u :: r → ts[1]? = some u := fun h => by rw [← Array.getElem?_toList, h]; rfl
  have nk : ¬ isPure b → ¬ k0 := fun h k => h (hk k)
  cases b <;> simp only [builtinS]
  case len =>
    split
    · rename_i t r x hts
      obtain ⟨v, hl, hvx⟩ := list1 hv
      have hvs : vs = #[v] := by apply Array.ext'; simpa using hl
      subst hvs
      split
      · rename_i i
        simp only [VR] at hvx
        subst hvx
        refine lenQ_sound (ty := ty) H (ts0 hts) fun u hu => ?_
        simp only [builtin]
        exact run_v hu
      · refine rN_RR H fun m hm => ?_
        have := len_sound (w := w) (ty := ty) H (ts0 hts) (vx := v) (fun _ => hvx) hm
        simp only [builtin]
        exact run_v this
    · exact trivial
  case cap =>
    split
    · rename_i t r x hts
      obtain ⟨v, hl, hvx⟩ := list1 hv
      have hvs : vs = #[v] := by apply Array.ext'; simpa using hl
      subst hvs
      refine cap_sound (ty := ty) H (ts0 hts) (vx := v) (fun _ => hvx) fun u w' hu => ?_
      simp only [builtin]
      exact run_v hu
    · exact trivial
  case append =>
    split
    · rename_i t u r x y hts
      obtain ⟨vx, vy, hl, hvx, hvy⟩ := list2 hv
      have hvs : vs = #[vx, vy] := by apply Array.ext'; simpa using hl
      subst hvs
      refine append_sound (ty := ty) H (ts0 hts) (ts1 hts) (vx := vx) (vy := vy) (fun _ => hvx) (fun _ => hvy) (nk (by simp [isPure])) fun u w' hu => ?_
      simp only [builtin]
      exact run_v hu
    · exact trivial
  case copy =>
    split
    · rename_i t r x y hts
      obtain ⟨vx, vy, hl, hvx, hvy⟩ := list2 hv
      have hvs : vs = #[vx, vy] := by apply Array.ext'; simpa using hl
      subst hvs
      refine copy_sound (ty := ty) H (ts0 hts) (vx := vx) (vy := vy) (fun _ => hvx) (fun _ => hvy) (nk (by simp [isPure])) fun u w' hu => ?_
      simp only [builtin]
      exact run_v hu
    · exact trivial
  case min =>
    refine RR.rv H fun h => ?_
    obtain ⟨v, h1, h2⟩ := min_sound (P := P) (w := w) (ts := ts) (ty := ty) hv h
    refine ⟨v, ?_, h2⟩
    simp only [builtin]
    exact run_v (by simpa using h1)
  case max =>
    refine RR.rv H fun h => ?_
    obtain ⟨v, h1, h2⟩ := max_sound (P := P) (w := w) (ts := ts) (ty := ty) hv h
    refine ⟨v, ?_, h2⟩
    simp only [builtin]
    exact run_v (by simpa using h1)
  case recover => exact ⟨rfl, by simp [builtin]⟩
  case panic =>
    split
    · rename_i t x
      obtain ⟨v, hl, hvx⟩ := list1 hv
      have hvs : vs = #[v] := by apply Array.ext'; simpa using hl
      subst hvs
      refine ⟨rfl, v, ?_, hvx⟩
      simp only [VR] at hvx
      obtain ⟨y, _, rfl⟩ := hvx
      simp only [builtin]
      apply run_v_halt
      simp [Instr.panic, goPanic]
    · exact trivial
  case unsafeSliceData =>
    split
    · rename_i x
      obtain ⟨v, hl, hvx⟩ := list1 hv
      have hvs : vs = #[v] := by apply Array.ext'; simpa using hl
      subst hvs
      unfold sliceDataS
      split
      · simp only [VR] at hvx
        subst hvx
        refine RV.pure H (v := .pointer none) ?_ (by simp [VR])
        simp only [builtin]
        exact run_v (Go.Lib.run_unsafeSliceData_nil w ts ty 0 0)
      · rename_i b off l c
        cases hc : Nat.ble 1 c with
        | false => rw [cond_false]; exact trivial
        | true =>
          rw [cond_true]
          have hc1 := Nat.le_of_ble_eq_true hc
          simp only [VR] at hvx
          obtain ⟨r, base, e, hb, rfl⟩ := hvx
          refine RV.pure H (v := .pointer (some ⟨r, base + off, none⟩)) ?_ (by simp only [VR]; exact ⟨r, base, e, hb, rfl⟩)
          simp only [builtin]
          exact run_v (Go.Lib.run_unsafeSliceData_row w ts ty _ l c (by omega))
      · rename_i b off l sz
        cases hc : Nat.ble 1 l with
        | false => rw [cond_false]; exact trivial
        | true =>
          rw [cond_true]
          have hc1 := Nat.le_of_ble_eq_true hc
          simp only [VR] at hvx
          obtain ⟨r, base, e, cap, hb, h1, _, rfl⟩ := hvx
          refine RV.pure H (v := .pointer (some ⟨r, base + off, none⟩)) ?_ (by simp only [VR]; exact ⟨r, base, e, hb, rfl⟩)
          simp only [builtin]
          exact run_v (Go.Lib.run_unsafeSliceData_row w ts ty _ l cap (by omega))
      · exact trivial
    · exact trivial
  case unsafeString =>
    split
    · rename_i t rt x y htl
      obtain ⟨vx, vy, hl, hvx, hvy⟩ := list2 hv
      have hvs : vs = #[vx, vy] := by apply Array.ext'; simpa using hl
      subst hvs
      have hts := ts0 htl
      unfold stringS
      split
      · split
        · simp only [VR] at hvx hvy
          subst hvx hvy
          refine RV.pure H (v := .string .empty) ?_ (by simp only [VR]; exact ⟨_, rfl, rfl, rfl⟩)
          simp only [builtin]
          exact run_v (unsafeString_nil hts none)
        · exact trivial
      · rename_i b off
        split
        · simp only [VR] at hvx hvy
          obtain ⟨r, base, e, hb, rfl⟩ := hvx
          subst hvy
          refine RV.pure H (v := .string .empty) ?_ (by simp only [VR]; exact ⟨_, rfl, rfl, rfl⟩)
          simp only [builtin]
          exact run_v (unsafeString_nil hts _)
        · rename_i m
          simp only [VR] at hvx hvy
          obtain ⟨r, base, e, hb, rfl⟩ := hvx
          subst hvy
          refine stringN_sound (ty := ty) H hb (Nat.succ_ne_zero m) (nk (by simp [isPure])) fun v w' hu => ?_
          simp only [builtin]
          exact run_v hu
        · exact trivial
      · exact trivial
    · exact trivial
  all_goals exact trivial
theorem callS_sound {f : Operand} (hf : OR ρ env re f) {args : List SV} {vs : Array Value} (hv : VRs ρ args vs.toList) :
    RR P ρ N s w k0 ((do let d ← Deferred.ofValue (re f) vs; invoke d.target d.args : Sem Next).run P w) (callS s (evO f env) args) := by
  unfold callS
  split
  · rename_i g first cap he
    have h := hf (by rw [he]; simp)
    rw [he] at h
    simp only [VR] at h
    obtain ⟨a', c', ha, hc, hre⟩ := h
    refine ⟨rfl, a' ++ vs.toList ++ c', (ha.append hv).append hc, ?_⟩
    rw [hre]
    simp only [Deferred.ofValue, Sem.run_bind, Sem.run_pure, Result.andThen_ok, invoke]
    congr 2
    apply Array.ext'
    simp
  · rename_i b he
    have h := hf (by rw [he]; simp)
    rw [he] at h
    simp only [VR] at h
    obtain ⟨r, base, e, hb, hre⟩ := h
    refine ⟨rfl, vs.toList, r, base, e, hb, hv, ?_⟩
    rw [hre]
    simp only [Deferred.ofValue, Sem.run_bind, Sem.run_pure, Result.andThen_ok, invoke]
    congr 2
    simp
  · exact trivial
theorem call_sound (H : Rel ρ N s w) {c : Call} (ha : ORs ρ env re c.args.toList) (hf : ∀ f, c.callee = .value f → OR ρ env re f) (hk : k0 → ∃ b, c.callee = .builtin b ∧ isPure b) :
    RR P ρ N s w k0 ((execOp re ⟨d, .call c, ty, pos, af, gd⟩).run P w) (exCall c P env s) := by
  unfold exCall
  cases hb : anyBad (evOs c.args.toList env) with
  | true => simp only [hb]; exact trivial
  | false =>
    simp only [hb, cond_false]
    have hvs : VRs ρ (evOs c.args.toList env) (c.args.map re).toList := by rw [Array.toList_map]; exact ha.vrs hb
    unfold callWith
    cases hc : c.callee with
    | builtin b =>
      obtain ⟨consts, hrun⟩ := run_builtin (P := P) (w := w) (re := re) (d := d) (ty := ty) (pos := pos) (af := af) (gd := gd) hc
      rw [hrun]
      exact builtin_sound H hvs fun k => by obtain ⟨b', h1, h2⟩ := hk k; rw [hc] at h1; cases h1; exact h2
    | value f =>
      have := callS_sound (P := P) (N := N) (s := s) (w := w) (k0 := k0) (hf f hc) hvs
      simp only [execOp, resolve, hc]
      exact this
    | invoke r m => exact trivial
theorem defer_sound {c : Call} (ha : ORs ρ env re c.args.toList) (hf : ∀ f, c.callee = .value f → OR ρ env re f) :
    RR P ρ N s w k0 ((execOp re ⟨d, .defer c, ty, pos, af, gd⟩).run P w) (exDefer c P env s) := by
  unfold exDefer
  cases hc : c.callee with
  | builtin b => exact trivial
  | invoke r m => exact trivial
  | value f =>
    simp only
    cases hb : anyBad (evOs c.args.toList env) with
    | true => exact trivial
    | false =>
      simp only [cond_false]
      have hvs : VRs ρ (evOs c.args.toList env) (c.args.map re).toList := by rw [Array.toList_map]; exact ha.vrs hb
      unfold callS
      split
      · rename_i g first cap he
        have h := hf f hc (by rw [he]; simp)
        rw [he] at h
        simp only [VR] at h
        obtain ⟨a', c', ha', hc', hre⟩ := h
        refine ⟨rfl, a' ++ (c.args.map re).toList, c', (ha'.append hvs).append hc', ?_⟩
        simp only [execOp, resolve, hc, hre, Deferred.ofValue, Sem.run_bind, Sem.run_pure, Result.andThen_ok]
        congr 3
        apply Array.ext'
        simp
      · exact trivial
      · exact trivial

theorem field_sound (H : Rel ρ N s w) {t : TypeId} {x : Operand} {f : Nat} (hx : OR ρ env re x) : RR P ρ N s w k0 ((execOp re ⟨d, .field t x f, ty, pos, af, gd⟩).run P w) (exField t x f P env s) := by
  unfold exField
  split
  · rename_i fs cs hu hv
    have h := hx (by rw [hv]; simp)
    rw [hv] at h
    simp only [VR] at h
    obtain ⟨l, hl, hre⟩ := h
    split
    · rename_i fd hf
      refine RR.rv H fun hb => ?_
      obtain ⟨v, h1, h2⟩ := partV_sound (l := l.toArray) (by simpa using hl) hb
      refine ⟨v, ?_, h2⟩
      simp only [execOp, hre]
      apply run_v
      simp [Instr.field, run_underlying hu, hf, asAgg, h1]
    · exact trivial
  · exact trivial

/-! ## every operation -/
theorem mem_list1 {x : Operand} {xs : List Operand} (h : ORs ρ env re (x :: xs)) : OR ρ env re x := h x (by simp)
theorem exec_sound {E : EE} (hE : EOk P E) (H : Rel ρ N s w) (o : Oper) (ho : ∀ x ∈ o.op.operands, OR ρ env re x) :
    RR P ρ N s w (kindOp o.op = 0) ((execOp re o).run P w) (exec E o.op P env s) := by
  obtain ⟨d, op, ty, pos, af, gd⟩ := o
  simp only at ho
  cases op <;> simp only [exec] <;> (try exact trivial)
  case move x => exact move_sound H (ho x (by simp [Op.operands]))
  case assign x => exact assign_sound H (ho x (by simp [Op.operands]))
  case pick c a b => exact pick_sound H (ho c (by simp [Op.operands])) (ho a (by simp [Op.operands])) (ho b (by simp [Op.operands]))
  case alloc e => exact newR_sound H fun mk blk h => alloc_ok (env := env) h
  case box e x => exact newR_sound H fun mk blk h => box_ok (ho x (by simp [Op.operands])) h
  case build t ps => exact build_sound H (fun x hx => ho x (by simpa [Op.operands] using hx))
  case buildSlice t n ps => exact newR_sound H fun mk blk h => buildSlice_ok (fun x hx => ho x (by simpa [Op.operands] using hx)) h
  case load t a => exact load_sound H (ho a (by simp [Op.operands]))
  case store t a x => exact store_sound H (ho a (by simp [Op.operands])) (ho x (by simp [Op.operands]))
  case nilCheck x => exact nilCheck_sound H (ho x (by simp [Op.operands]))
  case binOp op t x y u => exact bin_sound hE H (ho x (by simp [Op.operands])) (ho y (by simp [Op.operands]))
  case unOp op t x => exact unOp_sound H (ho x (by simp [Op.operands]))
  case convert a b x => exact conv_sound H (ho x (by simp [Op.operands]))
  case makeInterface t x => exact iface_sound H (ho x (by simp [Op.operands]))
  case makeFunc f a b => exact func_sound H (fun x hx => ho x (by simp only [Op.operands, Array.mem_append]; left; simpa using hx)) (fun x hx => ho x (by simp only [Op.operands, Array.mem_append]; right; simpa using hx))
  case makeMap t r => exact newR_sound H fun mk blk h => makeMap_ok (env := env) h
  case makeSlice t l c => exact newR_sound H fun mk blk h => makeSlice_ok (ho l (by simp [Op.operands])) (ho c (by simp [Op.operands])) h
  case slice t x l h m =>
    exact slice_sound H (ho x (by simp [Op.operands])) (fun y hy => ho y (by subst hy; simp [Op.operands])) (fun y hy => ho y (by subst hy; simp [Op.operands])) (fun y hy => ho y (by subst hy; simp [Op.operands]))
  case fieldAddr t x f => exact fieldAddr_sound H (ho x (by simp [Op.operands]))
  case field t x f => exact field_sound H (ho x (by simp [Op.operands]))
  case indexAddr t x i => exact indexAddr_sound H (ho x (by simp [Op.operands])) (ho i (by simp [Op.operands]))
  case index t x i => exact index_sound H (ho x (by simp [Op.operands])) (ho i (by simp [Op.operands]))
  case lookup t x k ok => exact lookup_sound hE H (ho x (by simp [Op.operands])) (ho k (by simp [Op.operands]))
  case mapUpdate t m k v =>
    unfold exMapUpdate
    split
    · exact trivial
    · rename_i x hx
      exact mapPut_sound hE H (ho m (by simp [Op.operands])) (ho k (by simp [Op.operands])) (ho v (by simp [Op.operands]) (fun e => hx e)) fun w' hw => by simp only [execOp]; exact run_u hw
  case insert t m k v =>
    unfold exMapUpdate
    split
    · exact trivial
    · rename_i x hx
      exact mapPut_sound hE H (ho m (by simp [Op.operands])) (ho k (by simp [Op.operands])) (ho v (by simp [Op.operands]) (fun e => hx e)) fun w' hw => by simp only [execOp]; exact run_u hw
  case mapEntry t m k =>
    unfold exMapEntry
    exact mapEnt_sound hE H (ho m (by simp [Op.operands])) (ho k (by simp [Op.operands])) (by simp [kindOp]) fun v w' hw => by simp only [execOp]; exact run_v hw
  case entryStore t m st v =>
    unfold exEntryStore
    split
    · exact trivial
    · rename_i x hx
      exact entSt_sound (t := t) H (ho m (by simp [Op.operands])) (fun n hn => (ho st (by simp [Op.operands])).asN hn) (ho v (by simp [Op.operands]) (fun e => hx e)) fun w' hw => by simp only [execOp]; exact run_u hw
  case range t x => exact range_sound H (ho x (by simp [Op.operands]))
  case next it b => exact next_sound H (ho it (by simp [Op.operands])) (by simp [kindOp])
  case typeAssert x t u ok => exact assert_sound H (ho x (by simp [Op.operands]))
  case extract t i => exact extract_sound H (ho t (by simp [Op.operands]))
  case panic x => exact panic_sound (ho x (by simp [Op.operands]))
  case call c =>
    refine call_sound H (fun x hx => ho x (by simp only [Op.operands, Call.operands, Array.mem_append]; right; simpa using hx)) (fun f hf => ho f (by simp [Op.operands, Call.operands, hf])) fun hk => ?_
    obtain ⟨callee, args, at'⟩ := c
    cases callee with
    | builtin b => cases b <;> simp [kindOp] at hk <;> exact ⟨_, rfl, by simp [isPure]⟩
    | value f => simp [kindOp] at hk
    | invoke r m => simp [kindOp] at hk
  case defer c => exact defer_sound (fun x hx => ho x (by simp only [Op.operands, Call.operands, Array.mem_append]; right; simpa using hx)) (fun f hf => ho f (by simp [Op.operands, Call.operands, hf]))
end Go.Sh
