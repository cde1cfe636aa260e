/- Part of a proof that a closed law answers true: the evaluator of the first text is sound; this text is one step of it. No condition. -/
import Derived.Test.YtbnplpeodjknaaaGreatDoorShH
import Derived.Laws.IdiomStrings
import Derived.Laws.Cover4
set_option linter.unusedSectionVars false
set_option linter.unusedSimpArgs false
set_option linter.unusedVariables false
namespace Go.Sh
variable [Opq]
open Go.RowKit (Below)
variable {I : Rho → World → Prop}
variable {P : Program} {ρ : Rho} {N : Bound I} {s : St} {w : World} {k0 : Prop}
variable {env : En} {re : Operand → Value} {d : Option Tmp} {ty : TypeId} {pos : String} {af : Array Edge} {gd : Option (Nat × Bool)}

/-! ## bytes -/
def byteV (b : UInt8) : Value := .int .u8 b.toNat
theorem bytesSV_sound {ρ : Rho} : ∀ (l : List UInt8), VRs ρ (bytesSV l.length (natOf l)) (l.map byteV)
  | [] => VRs.nil
  | c :: cs => by
    simp only [List.length_cons, bytesSV, List.map_cons]
    refine VRs.cons ?_ ?_
    · simp only [VR, byteV]
      have : Nat.mod (natOf (c :: cs)) 256 = c.toNat := natOf_mod c cs
      rw [this]; rfl
    · have : Nat.div (natOf (c :: cs)) 256 = natOf cs := natOf_div c cs
      rw [this]
      exact bytesSV_sound cs
theorem bytesSV_len : ∀ (l n : Nat), (bytesSV l n).length = l
  | 0, _ => rfl
  | l + 1, n => by simp [bytesSV, bytesSV_len l]
/-- cells that are bytes -/
theorem packSV_sound {ρ : Rho} : ∀ (cs : List SV) (n : Nat) (l : List Value), packSV cs = some n → VRs ρ cs l → ∃ bs : List UInt8, l = bs.map byteV ∧ natOf bs = n
  | [], n, l, h, hv => by
    simp [packSV] at h
    rw [VRs.nil_iff] at hv
    subst h hv
    exact ⟨[], rfl, rfl⟩
  | c :: cs, n, l, h, hv => by
    obtain ⟨v, vs, h1, h2, rfl⟩ := hv.cons_inv
    simp only [packSV] at h
    split at h
    · rename_i m
      cases hle : Nat.ble m 255 with
      | false => rw [hle] at h; simp at h
      | true =>
        rw [hle, cond_true] at h
        split at h
        · rename_i k hk
          cases h
          obtain ⟨bs, rfl, hbs⟩ := packSV_sound cs k vs hk h2
          have hm := Nat.le_of_ble_eq_true hle
          refine ⟨UInt8.ofNat m :: bs, ?_, ?_⟩
          · simp only [List.map_cons, VR] at h1 ⊢
            rw [h1]
            congr 1
            simp only [byteV]
            congr 1
            have : (UInt8.ofNat m).toNat = m := by simp; omega
            rw [this]; rfl
          · rw [natOf_cons, hbs]
            have : (UInt8.ofNat m).toNat = m := by simp; omega
            rw [this]; rfl
        · cases h
    · cases h
theorem strOf_some {len : Nat} {o : Option (List SV)} (h : strOf len o ≠ .bad) : ∃ cs n, o = some cs ∧ packSV cs = some n ∧ strOf len o = .str len n := by
  unfold strOf at h ⊢
  split at h
  · rename_i cs
    split at h
    · rename_i n hn
      refine ⟨cs, n, rfl, hn, ?_⟩
      simp
    · exact absurd rfl h
  · exact absurd rfl h
theorem atS_readN (H : Rel ρ N s w) {x : SV} {b off len n : Nat} {v : Value} {ds : List SV} (hat : atS x = some (b, off, len)) (hv : VR ρ x v) (h : readN s b off n = some ds) :
    ∃ a cap, v = .slice (some a) len cap ∧ ∃ l : List Value, (loadCells a n).run P w = .ok l.toArray w ∧ VRs ρ ds l := by
  obtain ⟨r, base, e, cap, hb, rfl⟩ := atS_some hat hv
  obtain ⟨l, h1, h2⟩ := readN_sound (P := P) H h hb
  exact ⟨_, cap, rfl, l, h1, h2⟩
theorem run_bytesBack {a : Addr} {len cap : Nat} {bs : List UInt8} (h : (loadCells a len).run P w = .ok (bs.map byteV).toArray w) : (Conv.bytesToString (.slice (some a) len cap)).run P w = .ok (.string ⟨bs.toArray⟩) w := by
  have h' : (loadCells a len).run P w = .ok ((bs.map (fun b => (b.toNat : Int))).map (Value.int .u8)).toArray w := by
    rw [h]; congr 2; simp [byteV]
  rw [run_bytesToString w a len cap _ h', foldl_push_byteCells]
  have he0 : ByteArray.empty.data = #[] := rfl
  rw [he0]
  simp
theorem alloc_eq (w : World) (o : Obj) : w.alloc o = newB w o := rfl
theorem Rel.drew (H : Rel ρ N s w) : Rel ρ N s w.drew := H.drawn _
theorem Below.newDrew (hN : N ≤ w.heap.size) (o : Obj) : Below N w (Sh.newB w.drew o) := (Below.drawn _).trans (Below.newB (w := w.drew) hN)
theorem strAt_out {l : List UInt8} {i : Nat} (h : l.length ≤ i) : strAt (natOf l) i = 0 := by
  unfold strAt
  have h1 := natOf_lt l
  have h2 : 2 ^ (8 * l.length) ≤ 2 ^ (8 * i) := Nat.pow_le_pow_right (by omega) (by omega)
  have h3 : Nat.div (natOf l) (Nat.pow 2 (Nat.mul 8 i)) = 0 := Nat.div_eq_of_lt (Nat.lt_of_lt_of_le h1 h2)
  rw [h3]
theorem get_strAt {a : ByteArray} {len n : Nat} (ha : SR a len n) (i : Nat) : (a.get! i).toNat = strAt n i := by
  rw [← ha.2]
  by_cases h : i < a.data.toList.length
  · rw [strAt_eq (List.getElem?_eq_getElem h)]
    have h' : i < a.data.size := by simpa using h
    congr 1
    show a.data[i]! = _
    rw [getElem!_pos a.data i h']
    simp
  · rw [strAt_out (by omega)]
    have h' : ¬ i < a.data.size := by simpa using h
    have : a.get! i = default := by
      show a.data[i]! = _
      rw [getElem!_neg a.data i h']
    rw [this]
    rfl
theorem ble_dec (a b : Nat) : Nat.ble a b = decide (a ≤ b) := by
  cases h : Nat.ble a b with
  | true => exact (decide_eq_true (Nat.le_of_ble_eq_true h)).symm
  | false =>
    symm
    rw [decide_eq_false_iff_not]
    intro hle
    rw [Nat.ble_eq_true_of_le hle] at h; cases h
theorem beq_dec (a b : Nat) : Nat.beq a b = (a == b) := by
  cases h : Nat.beq a b with
  | true => rw [Nat.eq_of_beq_eq_true h]; simp
  | false =>
    symm
    rw [beq_eq_false_iff_ne]
    intro e
    subst e
    simp at h
theorem decS_eq {a : ByteArray} {len n : Nat} (ha : SR a len n) (i : Nat) : decS len n i = Utf8.decode a i := by
  have hg := get_strAt ha
  unfold decS Utf8.decode
  simp only [hg, ha.1, ble_dec, beq_dec, Bool.cond_eq_ite, Bool.and_eq_true, decide_eq_true_eq, beq_iff_eq, Nat.add_one_le_iff, ge_iff_le]
/-! ## runes -/
theorem BR.grown0 {e : Nat} {xs : List SV} {cs rest : Array Value} (h : VRs ρ xs cs.toList) : BR ρ 0 (cs.size + rest.size) (.opn e xs big 0 false) (some (.cells (cs ++ rest) e (0, 0))) := by
  have hl := h.len
  simp only [Array.length_toList] at hl
  refine ⟨cs ++ rest, (0, 0), rfl, by simp, by omega, fun k => absurd k (Nat.lt_irrefl _), ?_, fun i _ _ k => absurd k.2 (Nat.not_lt_zero _), fun _ => Nat.zero_le _⟩
  intro i x hx
  obtain ⟨v, h1, h2⟩ := h.get i x hx
  have hlt := (List.getElem?_eq_some_iff.1 h1).1
  simp only [Array.length_toList] at hlt
  refine ⟨v, ?_, h2⟩
  rw [Nat.zero_add, Array.getElem?_append_left hlt, ← Array.getElem?_toList]
  exact h1
theorem runesSV_sound {ρ : Rho} {a : ByteArray} {len n : Nat} (ha : SR a len n) : ∀ (f i : Nat) (acc : Array Value), ∃ l : List Value, Conv.runesFrom a f i acc = acc ++ l.toArray ∧ VRs ρ (runesSV len n f i) l
  | 0, i, acc => ⟨[], by simp [Conv.runesFrom], by simp only [runesSV]; exact VRs.nil⟩
  | f + 1, i, acc => by
    simp only [runesSV, Conv.runesFrom, ha.1, ble_dec, Nat.succ_le_iff]
    by_cases h : i < len
    · rw [if_pos h, decide_eq_true h, cond_true, decS_eq ha i]
      obtain ⟨l, h1, h2⟩ := runesSV_sound ha f (i + (Utf8.decode a i).2) (acc.push (.int .i32 (Int.ofNat (Utf8.decode a i).1)))
      refine ⟨.int .i32 (Int.ofNat (Utf8.decode a i).1) :: l, ?_, VRs.cons (by simp [VR]) h2⟩
      show Conv.runesFrom a f (i + (Utf8.decode a i).2) (acc.push (.int .i32 (Int.ofNat (Utf8.decode a i).1))) = _
      rw [h1]
      simp
    · rw [if_neg h, decide_eq_false h, cond_false]
      exact ⟨[], by simp, VRs.nil⟩
theorem runesBytes_from (ns : List Int) : ∀ acc : ByteArray, ns.foldl (fun r n => r ++ Utf8.encode n) acc = acc ++ runesBytes ns := by
  induction ns with
  | nil => intro acc; simp [runesBytes]
  | cons n ns ih =>
    intro acc
    have h1 := ih (acc ++ Utf8.encode n)
    have h2 := ih (ByteArray.empty ++ Utf8.encode n)
    simp only [List.foldl_cons, runesBytes] at *
    rw [h1, h2]
    simp [ByteArray.append_assoc]
theorem runesBytes_cons (n : Int) (ns : List Int) : runesBytes (n :: ns) = Utf8.encode n ++ runesBytes ns := by
  have := runesBytes_from ns (ByteArray.empty ++ Utf8.encode n)
  simp only [runesBytes, List.foldl_cons] at *
  rw [this]
  simp
theorem encAll_sound {ρ : Rho} : ∀ (cs : List SV) (l : List Value), encAll cs ≠ .bad → VRs ρ cs l → ∃ (ns : List Int) (len n : Nat), l = ns.map (Value.int .i32) ∧ encAll cs = .str len n ∧ SR (runesBytes ns) len n
  | [], l, _, hv => by
    rw [VRs.nil_iff] at hv
    subst hv
    exact ⟨[], 0, 0, rfl, rfl, rfl, rfl⟩
  | c :: cs, l, h, hv => by
    obtain ⟨v, vs, h1, h2, rfl⟩ := hv.cons_inv
    simp only [encAll] at h ⊢
    split at h
    · rename_i r
      split at h
      · rename_i a n b m he hr
        obtain ⟨ns, len, k, rfl, h3, h4⟩ := encAll_sound cs vs (by rw [hr]; simp) h2
        simp only [VR] at h1
        subst h1
        rw [hr] at h3
        cases h3
        simp only [encS, ofV1] at he ⊢
        cases he
        refine ⟨r :: ns, _, _, rfl, rfl, ?_⟩
        rw [runesBytes_cons]
        obtain ⟨h5, h6⟩ := h4
        refine ⟨by simp [ByteArray.size_append, h5], ?_⟩
        rw [ByteArray.data_append, Array.toList_append, natOf_append, h6]
        rfl
      · exact absurd rfl h
    · exact absurd rfl h
theorem optEnc_some {o : Option (List SV)} (h : optEnc o ≠ .bad) : ∃ cs, o = some cs ∧ optEnc o = encAll cs := by
  cases o with
  | none => exact absurd rfl h
  | some cs => exact ⟨cs, rfl, rfl⟩
/-! ## pointers without a type -/
theorem inB_some {s : St} {w : World} {b off r base e : Nat} (H : Rel ρ N s w) (hb : ρ b = some (r, base, e)) (h : inB (s.h.get b) off = true) :
    ∃ rc ty fz, w.heap[r]? = some (.cells rc ty fz) ∧ base + off < rc.size := by
  unfold inB at h
  split at h
  · rename_i cs hc
    obtain ⟨rc, ty, fz, h1, h2⟩ := read_block H hc hb
    have hlt : off < cs.length := Nat.le_of_ble_eq_true h
    obtain ⟨v, h3, _⟩ := h2 off _ (List.getElem?_eq_getElem hlt)
    exact ⟨rc, ty, fz, h1, (Array.getElem?_eq_some_iff.1 h3).1⟩
  · cases h
theorem shape_at {w : World} {r ty : Nat} {rc : Array Value} {fz : Nat × Nat} (h : w.heap[r]? = some (.cells rc ty fz)) : w.shape? r = some (ty, rc.size) := by
  simp [World.shape?, h]
theorem run_seenAt {w : World} {r o : Nat} {sh : TypeId × Nat} (h : w.shape? r = some sh) : (Conv.seenAt ⟨r, o, none⟩).run P w = .ok ⟨r, o, none⟩ w := by
  simp [Conv.seenAt, viewAt, h]
theorem nzS_some {o : Option Nat} (h : nzS o = true) : ∃ n, o = some (n + 1) := by
  cases o with
  | none => cases h
  | some n => cases n with
    | zero => cases h
    | succ n => exact ⟨n, rfl⟩
theorem toUnsafe_run {w : World} {src dst t : TypeId} {r o n : Nat} {ty : TypeId} {rc : Array Value} {fz : Nat × Nat} (hs : P.underlying src = some (.pointer t)) (hd : P.underlying dst = some .unsafePointer)
    (h : w.heap[r]? = some (.cells rc ty fz)) (hlt : o < rc.size) (hz : size? P t = some (n + 1)) :
    (convert src dst (.pointer (some ⟨r, o, none⟩))).run P w = .ok (.pointer (some ⟨r, o, none⟩)) w := by
  have hsh := shape_at h
  have hno : ¬ rc.size ≤ o := by omega
  simp [convert, run_underlying hs, run_underlying hd, Conv.unsafePointer, run_seenAt hsh, cellsIn, hsh, hno, run_sizeOf hz]
theorem liesAt_head {e cells n : Nat} (hc : P.cellsOf e = n + 1) (h : n + 1 ≤ cells) : liesAt P P.depth e (cells / P.cellsOf e) 0 e 1 = true := by
  have hd : P.depth = (2 * (P.types.size + Made.depth) + 1) + 1 := rfl
  rw [hd]
  simp only [liesAt, Bool.or_eq_true]
  left
  rw [hd]
  have hq : 1 ≤ cells / (n + 1) := (Nat.le_div_iff_mul_le (by omega)).2 (by omega)
  simp [rowAt, hc, sameLayout, hq]
theorem size?_cellsOf {t : TypeId} {n : Nat} (h : size? P t = some n) : P.cellsOf t = n := by
  obtain ⟨i, hi, hs⟩ := size?_some h
  simp [Program.cellsOf, hi, hs]
theorem ofUnsafe_run {w : World} {src dst u : TypeId} {r n : Nat} {rc : Array Value} {fz : Nat × Nat} (hs : P.underlying src = some .unsafePointer) (hd : P.underlying dst = some (.pointer u))
    (h : w.heap[r]? = some (.cells rc u fz)) (hz : size? P u = some (n + 1)) (hle : n + 1 ≤ rc.size) :
    (convert src dst (.pointer (some ⟨r, 0, none⟩))).run P w = .ok (.pointer (some ⟨r, 0, none⟩)) w := by
  have hsh := shape_at h
  have hl := liesAt_head (P := P) (size?_cellsOf hz) hle
  simp [convert, run_underlying hs, run_underlying hd, Conv.unsafePointer, run_seenAt hsh, variablesAt, hsh, hl, run_sizeOf hz]
theorem headB_some {u off : Nat} {sz : Option Nat} {blk : SBlk} (h : headB u sz off blk = true) : ∃ cs n, blk = .cells u cs ∧ off = 0 ∧ sz = some (n + 1) ∧ n + 1 ≤ cs.length := by
  unfold headB at h
  split at h
  · rename_i t cs
    cases h1 : Nat.beq t u with
    | false => rw [h1] at h; cases h
    | true =>
      rw [h1, cond_true] at h
      cases h2 : Nat.beq off 0 with
      | false => rw [h2] at h; cases h
      | true =>
        rw [h2, cond_true] at h
        split at h
        · rename_i n
          exact ⟨cs, n, by rw [Nat.eq_of_beq_eq_true h1], Nat.eq_of_beq_eq_true h2, rfl, Nat.le_of_ble_eq_true h⟩
        · cases h
  · cases h
theorem conv_sound (H : Rel ρ N s w) {src dst : TypeId} {x : Operand} (hx : OR ρ env re x) :
    RR P ρ N s w k0 ((execOp re ⟨d, .convert src dst x, ty, pos, af, gd⟩).run P w) (exConv src dst x P env s) := by
  unfold exConv convS
  split
  · -- to a number
    rename_i ds k hs hd
    split
    · rename_i k' n hv
      have h := hx (by rw [hv]; simp)
      rw [hv] at h
      simp only [VR] at h
      refine RV.pure H (v := .int k (k.wrap n)) ?_ (by simp [VR, wrapF_eq])
      simp only [execOp, h]
      apply run_v
      simp [convert, run_underlying hs, run_underlying hd, Conv.intToInt]
    · exact trivial
  · rename_i hs hd
    split
    · rename_i l n hv
      have h := hx (by rw [hv]; simp)
      rw [hv] at h
      have h0 := h
      simp only [VR] at h
      obtain ⟨a, hre, _⟩ := h
      refine RV.pure H (v := re x) ?_ h0
      simp only [execOp, hre]
      apply run_v
      simp [convert, run_underlying hs, run_underlying hd]
    · exact trivial
  · rename_i k hs hd
    split
    · rename_i k' n hv
      have h := hx (by rw [hv]; simp)
      rw [hv] at h
      simp only [VR] at h
      refine RV.pure H (v := .string (Utf8.encode n)) ?_ (ofV1_sound ρ _ (by simp [ofV1]))
      simp only [execOp, h]
      apply run_v
      simp [convert, run_underlying hs, run_underlying hd, Conv.intToString]
    · exact trivial
  · rename_i e hs hd
    split
    · rename_i l n he hv
      have h := hx (by rw [hv]; simp)
      rw [hv] at h
      simp only [VR] at h
      obtain ⟨a, hre, hsr⟩ := h
      have hrun := run_bytes_of_string (P := P) w src dst e a hs hd he
      have hcapge : a.size ≤ grownCap w a.size 0 e := by
        unfold grownCap; simp [Question.cut]
      have hrow : (bytesRow a (grownCap w a.size 0 e)).size = grownCap w a.size 0 e := by
        simp only [bytesRow, Array.size_append, Array.size_map, Array.size_replicate]
        have : a.data.size = a.size := rfl
        omega
      have hBR : BR ρ 0 (grownCap w a.size 0 e) (.opn e (bytesSV l n) big 0 true) (some (.cells (bytesRow a (grownCap w a.size 0 e)) e ((bytesRow a (grownCap w a.size 0 e)).size, (bytesRow a (grownCap w a.size 0 e)).size + 1))) := by
        refine ⟨_, _, rfl, hrow, ?_, fun h => absurd h (Nat.lt_irrefl _), ?_, ?_, fun h => by cases h⟩
        · rw [bytesSV_len, ← hsr.1]; omega
        · have hb := bytesSV_sound (ρ := ρ) a.data.toList
          rw [SR.len hsr, hsr.2] at hb
          intro i x hx
          obtain ⟨v, h1, h2⟩ := hb.get _ _ hx
          refine ⟨v, ?_, h2⟩
          have hlt := (List.getElem?_eq_some_iff.1 h1).1
          simp only [List.length_map, Array.length_toList] at hlt
          simp only [bytesRow, Nat.zero_add]
          rw [Array.getElem?_append_left (by simpa using hlt)]
          rw [← h1]
          simp only [List.getElem?_map, Array.getElem?_map, Array.getElem?_toList]
          rfl
        · intro i h1 h2 h3
          simp only [hrow] at h3
          omega
      refine ⟨ρ.add s.nx (w.heap.size, 0, grownCap w a.size 0 e), _, _, by simp only [execOp, hre]; exact run_v hrun, ?_, ?_, Ext.new H _ _, ?_, ?_⟩
      · simp only [VR]
        refine ⟨w.heap.size, 0, grownCap w a.size 0 e, grownCap w a.size 0 e, Rho.add_self _ _ _, by rw [← hsr.1]; exact hcapge, by omega, ?_⟩
        rw [hsr.1]
      · rw [alloc_eq]
        exact (H.drew).new hBR
      · rw [alloc_eq]
        exact Below.newDrew H.size _
      · intro _ hn
        exact absurd hn (by show Nat.succ s.nx ≠ s.nx; omega)
    · rename_i l n he hv
      cases hle : Nat.ble l 1048576 with
      | false => rw [cond_false]; exact trivial
      | true =>
      rw [cond_true]
      have h := hx (by rw [hv]; simp)
      rw [hv] at h
      simp only [VR] at h
      obtain ⟨a, hre, hsr⟩ := h
      have hl1 := Nat.le_of_ble_eq_true hle
      obtain ⟨rs, hrs, hvs⟩ := runesSV_sound (ρ := ρ) (a := a) ⟨hsr.1, hsr.2⟩ l 0 #[]
      rw [← hsr.1] at hrs
      have hsz : (Conv.runesFrom a a.size 0 #[]).size = (runesSV l n l 0).length := by
        rw [hrs]
        have := hvs.len
        simpa using this
      have hvs' : VRs ρ (runesSV l n l 0) (Conv.runesFrom a a.size 0 #[]).toList := by rw [hrs]; simpa using hvs
      have hbnd := size_runesFrom a a.size 0 #[]
      have hrun := run_runes_of_string (P := P) w src dst e a hs hd he (by simp at hbnd; have := hsr.1; omega)
      have hcapge := grownCap_ge w (Conv.runesFrom a a.size 0 #[]).size 0 e
      have hBR := BR.grown0 (ρ := ρ) (e := e) (rest := Array.replicate (grownCap w (Conv.runesFrom a a.size 0 #[]).size 0 e - (Conv.runesFrom a a.size 0 #[]).size) (.int .i32 0)) hvs'
      have hsum : (Conv.runesFrom a a.size 0 #[]).size + (Array.replicate (grownCap w (Conv.runesFrom a a.size 0 #[]).size 0 e - (Conv.runesFrom a a.size 0 #[]).size) (Value.int .i32 0)).size = grownCap w (Conv.runesFrom a a.size 0 #[]).size 0 e := by simp; omega
      rw [hsum] at hBR
      refine ⟨ρ.add s.nx (w.heap.size, 0, grownCap w (Conv.runesFrom a a.size 0 #[]).size 0 e), _, _, by simp only [execOp, hre]; exact run_v hrun, ?_, ?_, Ext.new H _ _, ?_, ?_⟩
      · simp only [VR]
        refine ⟨w.heap.size, 0, _, _, Rho.add_self _ _ _, by rw [← hsz]; exact hcapge, by omega, ?_⟩
        rw [hsz]
      · rw [alloc_eq]
        exact (H.drew).new hBR
      · rw [alloc_eq]
        exact Below.newDrew H.size _
      · intro _ hn
        exact absurd hn (by show Nat.succ s.nx ≠ s.nx; omega)
    · exact trivial
  · rename_i e hs hd
    split
    · rename_i he
      split
      · rename_i hv
        have h := hx (by rw [hv]; simp)
        rw [hv] at h
        simp only [VR] at h
        refine RV.pure H (v := .string .empty) ?_ (by simp only [VR]; exact ⟨_, rfl, rfl, rfl⟩)
        simp only [execOp, h]
        apply run_v
        rw [run_convert_bytes_string w src dst e none 0 0 hs he hd]
        simp [Conv.bytesToString]
      · rename_i hnn
        split
        · rename_i b off len hat
          refine RR.rv H fun hb => ?_
          obtain ⟨cs, n, hcs, hn, heq⟩ := strOf_some hb
          obtain ⟨a, cap, hre, l, h1, h2⟩ := atS_readN (P := P) H hat (hx (atS_ne hat)) hcs
          obtain ⟨bs, rfl, hbs⟩ := packSV_sound cs n l hn h2
          refine ⟨.string ⟨bs.toArray⟩, ?_, ?_⟩
          · simp only [execOp, hre]
            apply run_v
            rw [run_convert_bytes_string w src dst e (some a) len cap hs he hd]
            exact run_bytesBack h1
          · rw [heq]
            simp only [VR]
            refine ⟨_, rfl, ?_, by simpa using hbs⟩
            have hl := h2.len
            simp at hl
            have : cs.length = len := by
              unfold readN at hcs
              split at hcs
              · obtain ⟨q1, q2⟩ := takeN_some _ _ _ hcs
                rw [q1, List.length_take]; omega
              · cases hcs
            show bs.toArray.size = len
            simp; omega
        · exact trivial
    · rename_i he
      split
      · rename_i hv
        have h := hx (by rw [hv]; simp)
        rw [hv] at h
        simp only [VR] at h
        refine RV.pure H (v := .string .empty) ?_ (by simp only [VR]; exact ⟨_, rfl, rfl, rfl⟩)
        simp only [execOp, h]
        apply run_v
        exact run_convert_runes_nil w src dst e 0 0 hs he hd
      · rename_i hnn
        split
        · rename_i b off len hat
          refine RR.rv H fun hb => ?_
          obtain ⟨cs, hcs, heq⟩ := optEnc_some hb
          obtain ⟨a, cap, hre, l, h1, h2⟩ := atS_readN (P := P) H hat (hx (atS_ne hat)) hcs
          rw [heq] at hb ⊢
          obtain ⟨ns, len', n, rfl, h3, h4⟩ := encAll_sound cs l hb h2
          refine ⟨.string (runesBytes ns), ?_, ?_⟩
          · simp only [execOp, hre]
            apply run_v
            rw [run_convert_runes_string w src dst e (some a) len cap hs he hd]
            exact run_runesToString w a len cap ns h1
          · rw [h3]
            simp only [VR]
            exact ⟨_, rfl, h4.1, h4.2⟩
        · exact trivial
    · exact trivial
  · rename_i t hs hd
    split
    · rename_i b off hv
      cases hc : (inB (s.h.get b) off && nzS (size? P t)) with
      | false => rw [cond_false]; exact trivial
      | true =>
        rw [cond_true]
        rw [Bool.and_eq_true] at hc
        have h := hx (by rw [hv]; simp)
        rw [hv] at h
        have h0 := h
        simp only [VR] at h
        obtain ⟨r, base, e, hb, hre⟩ := h
        obtain ⟨rc, ty, fz, h1, h2⟩ := inB_some H hb hc.1
        obtain ⟨n, hn⟩ := nzS_some hc.2
        refine RV.pure H (v := re x) ?_ h0
        simp only [execOp, hre]
        exact run_v (toUnsafe_run hs hd h1 h2 hn)
    · exact trivial
  · rename_i u hs hd
    split
    · rename_i b off hv
      cases hc : headB u (size? P u) off (s.h.get b) with
      | false => rw [cond_false]; exact trivial
      | true =>
        rw [cond_true]
        have h := hx (by rw [hv]; simp)
        rw [hv] at h
        have h0 := h
        simp only [VR] at h
        obtain ⟨r, base, e, hb, hre⟩ := h
        obtain ⟨cs, n, hg, rfl, hn, hle⟩ := headB_some hc
        have hL := H.live _ _ _ _ hb
        rw [hg] at hL
        obtain ⟨rc, ho, hsz, hlen, rfl, hcr⟩ := hL
        refine RV.pure H (v := re x) ?_ h0
        simp only [execOp, hre]
        exact run_v (ofUnsafe_run hs hd ho hn (by omega))
    · exact trivial
  · exact trivial
end Go.Sh
