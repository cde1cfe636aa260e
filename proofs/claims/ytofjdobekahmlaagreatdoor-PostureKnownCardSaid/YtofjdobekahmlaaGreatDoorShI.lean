/- Part of a proof that a closed law answers true: the evaluator of the first text is sound; this text is one step of it. No condition. -/
import Derived.Test.YtofjdobekahmlaaGreatDoorShH
import Derived.Laws.IdiomStrings
namespace Go.Sh
open Go.RowKit (Below)
variable {I : Rho → World → Prop}
variable {P : Program} {ρ : Rho} {N : Bound I} {s : St} {w : World} {k0 : Prop}
variable {env : En} {re : Operand → Value} {d : Option Tmp} {ty : TypeId} {pos : String} {af : Array Edge} {gd : Option (Nat × Bool)}

/-! ## bytes -/
def byteV (b : UInt8) : Value := .int .u8 b.toNat
theorem bytesSV_sound {ρ : Rho} : ∀ (l : List UInt8), VRs ρ (bytesSV l.length (natOf l)) (l.map byteV)
  | [] => VRs.nil
  | c :: cs => by
    simp only [List.length_cons, bytesSV, List.map_cons]
    refine VRs.cons ?_ ?_
    · simp only [VR, byteV]
      have : Nat.mod (natOf (c :: cs)) 256 = c.toNat := natOf_mod c cs
      rw [this]; rfl
    · have : Nat.div (natOf (c :: cs)) 256 = natOf cs := natOf_div c cs
      rw [this]
      exact bytesSV_sound cs
theorem bytesSV_len : ∀ (l n : Nat), (bytesSV l n).length = l
  | 0, _ => rfl
  | l + 1, n => by simp [bytesSV, bytesSV_len l]
/-- cells that are bytes -/
theorem packSV_sound {ρ : Rho} : ∀ (cs : List SV) (n : Nat) (l : List Value), packSV cs = some n → VRs ρ cs l → ∃ bs : List UInt8, l = bs.map byteV ∧ natOf bs = n
  | [], n, l, h, hv => by
    simp [packSV] at h
    rw [VRs.nil_iff] at hv
    subst h hv
    exact ⟨[], rfl, rfl⟩
  | c :: cs, n, l, h, hv => by
    obtain ⟨v, vs, h1, h2, rfl⟩ := hv.cons_inv
    simp only [packSV] at h
    split at h
    · rename_i m
      cases hle : Nat.ble m 255 with
      | false => rw [hle] at h; simp at h
      | true =>
        rw [hle, cond_true] at h
        split at h
        · rename_i k hk
          cases h
          obtain ⟨bs, rfl, hbs⟩ := packSV_sound cs k vs hk h2
          have hm := Nat.le_of_ble_eq_true hle
          refine ⟨UInt8.ofNat m :: bs, ?_, ?_⟩
          · simp only [List.map_cons, VR] at h1 ⊢
            rw [h1]
            congr 1
            simp only [byteV]
            congr 1
            have : (UInt8.ofNat m).toNat = m := by simp; omega
            rw [this]; rfl
          · rw [natOf_cons, hbs]
            have : (UInt8.ofNat m).toNat = m := by simp; omega
            rw [this]; rfl
        · cases h
    · cases h
theorem strOf_some {len : Nat} {o : Option (List SV)} (h : strOf len o ≠ .bad) : ∃ cs n, o = some cs ∧ packSV cs = some n ∧ strOf len o = .str len n := by
  unfold strOf at h ⊢
  split at h
  · rename_i cs
    split at h
    · rename_i n hn
      refine ⟨cs, n, rfl, hn, ?_⟩
      simp
    · exact absurd rfl h
  · exact absurd rfl h
theorem atS_readN (H : Rel ρ N s w) {x : SV} {b off len n : Nat} {v : Value} {ds : List SV} (hat : atS x = some (b, off, len)) (hv : VR ρ x v) (h : readN s b off n = some ds) :
    ∃ a cap, v = .slice (some a) len cap ∧ ∃ l : List Value, (loadCells a n).run P w = .ok l.toArray w ∧ VRs ρ ds l := by
  obtain ⟨r, base, e, cap, hb, rfl⟩ := atS_some hat hv
  obtain ⟨l, h1, h2⟩ := readN_sound (P := P) H h hb
  exact ⟨_, cap, rfl, l, h1, h2⟩
theorem run_bytesBack {a : Addr} {len cap : Nat} {bs : List UInt8} (h : (loadCells a len).run P w = .ok (bs.map byteV).toArray w) : (Conv.bytesToString (.slice (some a) len cap)).run P w = .ok (.string ⟨bs.toArray⟩) w := by
  have h' : (loadCells a len).run P w = .ok ((bs.map (fun b => (b.toNat : Int))).map (Value.int .u8)).toArray w := by
    rw [h]; congr 2; simp [byteV]
  rw [run_bytesToString w a len cap _ h', foldl_push_byteCells]
  have he0 : ByteArray.empty.data = #[] := rfl
  rw [he0]
  simp
theorem alloc_eq (w : World) (o : Obj) : w.alloc o = newB w o := rfl
theorem Rel.drew (H : Rel ρ N s w) : Rel ρ N s w.drew := H.drawn _
theorem Below.newDrew (hN : N ≤ w.heap.size) (o : Obj) : Below N w (Sh.newB w.drew o) := (Below.drawn _).trans (Below.newB (w := w.drew) hN)
theorem conv_sound (H : Rel ρ N s w) {src dst : TypeId} {x : Operand} (hx : OR ρ env re x) :
    RR P ρ N s w k0 ((execOp re ⟨d, .convert src dst x, ty, pos, af, gd⟩).run P w) (exConv src dst x P env s) := by
  unfold exConv convS
  split
  · -- to a number
    rename_i ds k hs hd
    split
    · rename_i k' n hv
      have h := hx (by rw [hv]; simp)
      rw [hv] at h
      simp only [VR] at h
      refine RV.pure H (v := .int k (k.wrap n)) ?_ (by simp [VR, wrapF_eq])
      simp only [execOp, h]
      apply run_v
      simp [convert, run_underlying hs, run_underlying hd, Conv.intToInt]
    · exact trivial
  · rename_i hs hd
    split
    · rename_i l n hv
      have h := hx (by rw [hv]; simp)
      rw [hv] at h
      have h0 := h
      simp only [VR] at h
      obtain ⟨a, hre, _⟩ := h
      refine RV.pure H (v := re x) ?_ h0
      simp only [execOp, hre]
      apply run_v
      simp [convert, run_underlying hs, run_underlying hd]
    · exact trivial
  · rename_i k hs hd
    split
    · rename_i k' n hv
      have h := hx (by rw [hv]; simp)
      rw [hv] at h
      simp only [VR] at h
      refine RV.pure H (v := .string (Utf8.encode n)) ?_ (ofV1_sound ρ _ (by simp [ofV1]))
      simp only [execOp, h]
      apply run_v
      simp [convert, run_underlying hs, run_underlying hd, Conv.intToString]
    · exact trivial
  · rename_i e hs hd
    split
    · rename_i l n he hv
      have h := hx (by rw [hv]; simp)
      rw [hv] at h
      simp only [VR] at h
      obtain ⟨a, hre, hsr⟩ := h
      have hrun := run_bytes_of_string (P := P) w src dst e a hs hd he
      have hcapge : a.size ≤ grownCap w a.size 0 e := by
        unfold grownCap; simp [Question.cut]
      have hrow : (bytesRow a (grownCap w a.size 0 e)).size = grownCap w a.size 0 e := by
        simp only [bytesRow, Array.size_append, Array.size_map, Array.size_replicate]
        have : a.data.size = a.size := rfl
        omega
      have hBR : BR ρ 0 (grownCap w a.size 0 e) (.opn e (bytesSV l n) big 0 true) (some (.cells (bytesRow a (grownCap w a.size 0 e)) e ((bytesRow a (grownCap w a.size 0 e)).size, (bytesRow a (grownCap w a.size 0 e)).size + 1))) := by
        refine ⟨_, _, rfl, hrow, ?_, fun h => absurd h (Nat.lt_irrefl _), ?_, ?_, fun h => by cases h⟩
        · rw [bytesSV_len, ← hsr.1]; omega
        · have hb := bytesSV_sound (ρ := ρ) a.data.toList
          rw [SR.len hsr, hsr.2] at hb
          intro i x hx
          obtain ⟨v, h1, h2⟩ := hb.get _ _ hx
          refine ⟨v, ?_, h2⟩
          have hlt := (List.getElem?_eq_some_iff.1 h1).1
          simp only [List.length_map, Array.length_toList] at hlt
          simp only [bytesRow, Nat.zero_add]
          rw [Array.getElem?_append_left (by simpa using hlt)]
          rw [← h1]
          simp only [List.getElem?_map, Array.getElem?_map, Array.getElem?_toList]
          rfl
        · intro i h1 h2 h3
          simp only [hrow] at h3
          omega
      refine ⟨ρ.add s.nx (w.heap.size, 0, grownCap w a.size 0 e), _, _, by simp only [execOp, hre]; exact run_v hrun, ?_, ?_, Ext.new H _ _, ?_, ?_⟩
      · simp only [VR]
        refine ⟨w.heap.size, 0, grownCap w a.size 0 e, grownCap w a.size 0 e, Rho.add_self _ _ _, by rw [← hsr.1]; exact hcapge, by omega, ?_⟩
        rw [hsr.1]
      · rw [alloc_eq]
        exact (H.drew).new hBR
      · rw [alloc_eq]
        exact Below.newDrew H.size _
      · intro _ hn
        exact absurd hn (by show Nat.succ s.nx ≠ s.nx; omega)
    · exact trivial
  · rename_i e hs hd
    split
    · rename_i he
      split
      · rename_i hv
        have h := hx (by rw [hv]; simp)
        rw [hv] at h
        simp only [VR] at h
        refine RV.pure H (v := .string .empty) ?_ (by simp only [VR]; exact ⟨_, rfl, rfl, rfl⟩)
        simp only [execOp, h]
        apply run_v
        rw [run_convert_bytes_string w src dst e none 0 0 hs he hd]
        simp [Conv.bytesToString]
      · rename_i hnn
        split
        · rename_i b off len hat
          refine RR.rv H fun hb => ?_
          obtain ⟨cs, n, hcs, hn, heq⟩ := strOf_some hb
          obtain ⟨a, cap, hre, l, h1, h2⟩ := atS_readN (P := P) H hat (hx (atS_ne hat)) hcs
          obtain ⟨bs, rfl, hbs⟩ := packSV_sound cs n l hn h2
          refine ⟨.string ⟨bs.toArray⟩, ?_, ?_⟩
          · simp only [execOp, hre]
            apply run_v
            rw [run_convert_bytes_string w src dst e (some a) len cap hs he hd]
            exact run_bytesBack h1
          · rw [heq]
            simp only [VR]
            refine ⟨_, rfl, ?_, by simpa using hbs⟩
            have hl := h2.len
            simp at hl
            have : cs.length = len := by
              unfold readN at hcs
              split at hcs
              · obtain ⟨q1, q2⟩ := takeN_some _ _ _ hcs
                rw [q1, List.length_take]; omega
              · cases hcs
            show bs.toArray.size = len
            simp; omega
        · exact trivial
    · exact trivial
  · exact trivial
end Go.Sh
