-- PRINTED BY print.sh 35421559b90ae4d0a3588c463048766b98c2df88dd9212a6774a882060cdf62d: not written by this session
import Derived.Test.YtgljohmkejbclaaGreatDoorProg
import Derived.Below
import Derived.Deep.Draws
import Derived.Deep.AppendLies
import Derived.Maps.AppendAt
import Derived.OwnWalk
import Derived.Laws.BytesArg
import Derived.Laws.MakeOwn
import Derived.Laws.OwnMore
import Derived.Deep.OwnRows
import Derived.Tactics
import Derived.Lib.ConvBytes
import Derived.Laws.Slices
import Derived.WalkKit
import Derived.KernelRfl
import Derived.RowKit3
import Derived.Deep.LoopGhost
import Derived.Deep.QuietTactic
import Derived.BigQuiet
import Derived.WideLaws
import Derived.Deep.DeepCutAuto
import Derived.Deep.CutBlock
import Derived.Deep.RegionHeld3
import Derived.Laws.Rows
import Derived.Lib.AppendStr
import Derived.ArgAppend
import Derived.Laws.IdiomCopy
import Derived.OrdersHeld
import Derived.Laws.BitsLemmas
import Derived.RowKit
import Derived.Test.YtgljohmkejbclaaGreatDoorWWords
import Derived.Test.YtgljohmkejbclaaGreatDoorWLast
import Derived.Test.YtgljohmkejbclaaGreatDoorWTab
import Derived.Test.YtgljohmkejbclaaGreatDoorWFour
import Derived.Test.YtgljohmkejbclaaGreatDoorWQPut
import Derived.Test.YtgljohmkejbclaaGreatDoorWApart
import Derived.Test.YtgljohmkejbclaaGreatDoorWArr
import Derived.Test.YtgljohmkejbclaaGreatDoorWZeros
import Derived.Test.YtgljohmkejbclaaGreatDoorWFoot
import Derived.Test.YtgljohmkejbclaaGreatDoorWKept
import Derived.Test.YtgljohmkejbclaaGreatDoorWShare
import Derived.Test.YtgljohmkejbclaaGreatDoorWN
import Derived.Test.YtgljohmkejbclaaGreatDoorWFootNe
import Derived.Test.YtgljohmkejbclaaGreatDoorWAt
import Derived.Test.YtgljohmkejbclaaGreatDoorWEqStruct
import Derived.Test.YtgljohmkejbclaaGreatDoorWRepsOne
import Derived.Test.YtgljohmkejbclaaGreatDoorWInv
import Derived.Test.YtgljohmkejbclaaGreatDoorWInvWords
import Derived.Test.YtgljohmkejbclaaGreatDoorWGuard
import Derived.Test.YtgljohmkejbclaaGreatDoorWNEv
import Derived.Test.YtgljohmkejbclaaGreatDoorWMore
namespace Go.Proofs.YtgljohmkejbclaaGreatDoor.PStreamableGrows
open Go.RowKit Go.Proofs.YtgljohmkejbclaaGreatDoorW.PrintWords Go.Proofs.YtgljohmkejbclaaGreatDoorW.PrintLast Go.Proofs.YtgljohmkejbclaaGreatDoorW.PrintMore
attribute [local go_sem] max2_int min2_int max_two min_two max_three min_three max_four min_four   -- for this text's walks alone
set_option linter.unusedVariables false
set_option linter.unusedSimpArgs false



def errW : Option Int → Value
  | none => .nilIface
  | some c => .iface 0 (.int .i64 c)
theorem errW_none : errW none = .nilIface := rfl
theorem errW_some (c : Int) : errW (some c) = .iface 0 (.int .i64 c) := rfl

theorem info38 : (Tryz.prog.info? 38).map (fun i => (i.zero, i.size, i.bytes)) = some (some (.agg #[(.int .i64 0), (.string ⟨#[]⟩), (.string ⟨#[]⟩), (.int .i64 0), (.int .i64 0), (.string ⟨#[]⟩), (.int .i64 0), (.int .i64 0), (.string ⟨#[]⟩), (.int .i64 0), (.int .i64 0), (.int .i64 0), (.string ⟨#[]⟩), (.string ⟨#[]⟩), (.slice none 0 0), (.slice none 0 0)]), 16, 208) := by kernel_rfl
-- the values' own types
/-! #### struct type 24 -/
structure S24 where
  f0 : ByteArray
  f1 : Int
def z24 : S24 := ⟨(⟨#[]⟩ : ByteArray), (0 : Int)⟩
def k24 : Kd S24 := Kd.iso (Kd.pair Kd.string (Kd.int .i64)) (fun x : S24 => (x.f0, x.f1))
theorem k24_open {w : World} {x : S24} {cs : List Value} (h : k24.K w x cs) : cs = [.string x.f0, .int .i64 x.f1] := by
  obtain ⟨_, _, rfl, rfl, rfl⟩ := h
  exact rfl
theorem k24_openM {w : World} {base : Nat} {ok : Nat → Prop} {x : S24} {cs : List Value} (h : k24.M w base ok x cs) : cs = [.string x.f0, .int .i64 x.f1] := by
  obtain ⟨_, _, rfl, rfl, rfl⟩ := h
  exact rfl
theorem k24_mk (w : World) (x : S24)  : k24.K w x [.string x.f0, .int .i64 x.f1] := ⟨[.string x.f0], [.int .i64 x.f1], rfl, rfl, rfl⟩
theorem k24_mkM (w : World) (base : Nat) (ok : Nat → Prop) (x : S24)  : k24.M w base ok x [.string x.f0, .int .i64 x.f1] := ⟨[.string x.f0], [.int .i64 x.f1], rfl, rfl, rfl⟩
theorem k24_mkF (W : World) (ok : Nat → Prop) (x : S24) : Kd.FK k24 W ok x [.string x.f0, .int .i64 x.f1] := fun W2 _ => k24_mk W2 x
def rd_T24 (xs : List S24) (i : Int) : S24 := xs.getD i.toNat z24
theorem at_T24 {w : World} {A : Option Addr} {n : Nat} {xs : List S24} (h : Kd.C k24 w A n xs) (i : Int) (h0 : 0 ≤ i) (h1 : i < n) : ∃ ad , A = some ad ∧ w.cell? (ad.add (i.toNat * 2)) = some (.string (rd_T24 xs i).f0) ∧ w.cell? ⟨(ad.add (i.toNat * 2)).block, (ad.add (i.toNat * 2)).off + 1, none⟩ = some (.int .i64 (rd_T24 xs i).f1) := by
  obtain ⟨ad, c, e, _, hK, hc0⟩ := Kd.C_get h z24 i h0 h1
  have hc : ∀ j u, c[j]? = some u → w.cell? (ad.add (i.toNat * 2 + j)) = some u := hc0
  obtain rfl := k24_open hK
  exact ⟨ad, e, hc 0 _ rfl, by rw [← add_field _ _ 1 (by omega)]; exact hc 1 _ rfl⟩

/-! #### struct type 30 -/
structure S30 where
  f0 : Int
  f1 : ByteArray
def z30 : S30 := ⟨(0 : Int), (⟨#[]⟩ : ByteArray)⟩
def k30 : Kd S30 := Kd.iso (Kd.pair (Kd.int .i64) Kd.string) (fun x : S30 => (x.f0, x.f1))
theorem k30_open {w : World} {x : S30} {cs : List Value} (h : k30.K w x cs) : cs = [.int .i64 x.f0, .string x.f1] := by
  obtain ⟨_, _, rfl, rfl, rfl⟩ := h
  exact rfl
theorem k30_openM {w : World} {base : Nat} {ok : Nat → Prop} {x : S30} {cs : List Value} (h : k30.M w base ok x cs) : cs = [.int .i64 x.f0, .string x.f1] := by
  obtain ⟨_, _, rfl, rfl, rfl⟩ := h
  exact rfl
theorem k30_mk (w : World) (x : S30)  : k30.K w x [.int .i64 x.f0, .string x.f1] := ⟨[.int .i64 x.f0], [.string x.f1], rfl, rfl, rfl⟩
theorem k30_mkM (w : World) (base : Nat) (ok : Nat → Prop) (x : S30)  : k30.M w base ok x [.int .i64 x.f0, .string x.f1] := ⟨[.int .i64 x.f0], [.string x.f1], rfl, rfl, rfl⟩
theorem k30_mkF (W : World) (ok : Nat → Prop) (x : S30) : Kd.FK k30 W ok x [.int .i64 x.f0, .string x.f1] := fun W2 _ => k30_mk W2 x
def rd_T30 (xs : List S30) (i : Int) : S30 := xs.getD i.toNat z30
theorem at_T30 {w : World} {A : Option Addr} {n : Nat} {xs : List S30} (h : Kd.C k30 w A n xs) (i : Int) (h0 : 0 ≤ i) (h1 : i < n) : ∃ ad , A = some ad ∧ w.cell? (ad.add (i.toNat * 2)) = some (.int .i64 (rd_T30 xs i).f0) ∧ w.cell? ⟨(ad.add (i.toNat * 2)).block, (ad.add (i.toNat * 2)).off + 1, none⟩ = some (.string (rd_T30 xs i).f1) := by
  obtain ⟨ad, c, e, _, hK, hc0⟩ := Kd.C_get h z30 i h0 h1
  have hc : ∀ j u, c[j]? = some u → w.cell? (ad.add (i.toNat * 2 + j)) = some u := hc0
  obtain rfl := k30_open hK
  exact ⟨ad, e, hc 0 _ rfl, by rw [← add_field _ _ 1 (by omega)]; exact hc 1 _ rfl⟩

/-! #### struct type 32 -/
structure S32 where
  f0 : Int
  f1 : ByteArray
def z32 : S32 := ⟨(0 : Int), (⟨#[]⟩ : ByteArray)⟩
def k32 : Kd S32 := Kd.iso (Kd.pair (Kd.int .i64) Kd.string) (fun x : S32 => (x.f0, x.f1))
theorem k32_open {w : World} {x : S32} {cs : List Value} (h : k32.K w x cs) : cs = [.int .i64 x.f0, .string x.f1] := by
  obtain ⟨_, _, rfl, rfl, rfl⟩ := h
  exact rfl
theorem k32_openM {w : World} {base : Nat} {ok : Nat → Prop} {x : S32} {cs : List Value} (h : k32.M w base ok x cs) : cs = [.int .i64 x.f0, .string x.f1] := by
  obtain ⟨_, _, rfl, rfl, rfl⟩ := h
  exact rfl
theorem k32_mk (w : World) (x : S32)  : k32.K w x [.int .i64 x.f0, .string x.f1] := ⟨[.int .i64 x.f0], [.string x.f1], rfl, rfl, rfl⟩
theorem k32_mkM (w : World) (base : Nat) (ok : Nat → Prop) (x : S32)  : k32.M w base ok x [.int .i64 x.f0, .string x.f1] := ⟨[.int .i64 x.f0], [.string x.f1], rfl, rfl, rfl⟩
theorem k32_mkF (W : World) (ok : Nat → Prop) (x : S32) : Kd.FK k32 W ok x [.int .i64 x.f0, .string x.f1] := fun W2 _ => k32_mk W2 x
def rd_T32 (xs : List S32) (i : Int) : S32 := xs.getD i.toNat z32
theorem at_T32 {w : World} {A : Option Addr} {n : Nat} {xs : List S32} (h : Kd.C k32 w A n xs) (i : Int) (h0 : 0 ≤ i) (h1 : i < n) : ∃ ad , A = some ad ∧ w.cell? (ad.add (i.toNat * 2)) = some (.int .i64 (rd_T32 xs i).f0) ∧ w.cell? ⟨(ad.add (i.toNat * 2)).block, (ad.add (i.toNat * 2)).off + 1, none⟩ = some (.string (rd_T32 xs i).f1) := by
  obtain ⟨ad, c, e, _, hK, hc0⟩ := Kd.C_get h z32 i h0 h1
  have hc : ∀ j u, c[j]? = some u → w.cell? (ad.add (i.toNat * 2 + j)) = some u := hc0
  obtain rfl := k32_open hK
  exact ⟨ad, e, hc 0 _ rfl, by rw [← add_field _ _ 1 (by omega)]; exact hc 1 _ rfl⟩

/-! #### struct type 34 -/
structure S34 where
  f0 : Int
  f1 : Int
  f2 : S32
  f3 : ByteArray
def z34 : S34 := ⟨(0 : Int), (0 : Int), z32, (⟨#[]⟩ : ByteArray)⟩
def k34 : Kd S34 := Kd.iso (Kd.pair (Kd.int .i64) (Kd.pair (Kd.int .i64) (Kd.pair k32 Kd.string))) (fun x : S34 => (x.f0, x.f1, x.f2, x.f3))
theorem k34_open {w : World} {x : S34} {cs : List Value} (h : k34.K w x cs) : cs = [.int .i64 x.f0, .int .i64 x.f1, .int .i64 x.f2.f0, .string x.f2.f1, .string x.f3] := by
  obtain ⟨_, _, rfl, rfl, ⟨_, _, rfl, rfl, ⟨_, _, rfl, s2, rfl⟩⟩⟩ := h
  obtain rfl := k32_open s2
  exact rfl
theorem k34_openM {w : World} {base : Nat} {ok : Nat → Prop} {x : S34} {cs : List Value} (h : k34.M w base ok x cs) : cs = [.int .i64 x.f0, .int .i64 x.f1, .int .i64 x.f2.f0, .string x.f2.f1, .string x.f3] := by
  obtain ⟨_, _, rfl, rfl, ⟨_, _, rfl, rfl, ⟨_, _, rfl, s2, rfl⟩⟩⟩ := h
  obtain rfl := k32_openM s2
  exact rfl
theorem k34_mk (w : World) (x : S34)  : k34.K w x [.int .i64 x.f0, .int .i64 x.f1, .int .i64 x.f2.f0, .string x.f2.f1, .string x.f3] := ⟨[.int .i64 x.f0], [.int .i64 x.f1, .int .i64 x.f2.f0, .string x.f2.f1, .string x.f3], rfl, rfl, ⟨[.int .i64 x.f1], [.int .i64 x.f2.f0, .string x.f2.f1, .string x.f3], rfl, rfl, ⟨[.int .i64 x.f2.f0, .string x.f2.f1], [.string x.f3], rfl, (k32_mk w x.f2 ), rfl⟩⟩⟩
theorem k34_mkM (w : World) (base : Nat) (ok : Nat → Prop) (x : S34)  : k34.M w base ok x [.int .i64 x.f0, .int .i64 x.f1, .int .i64 x.f2.f0, .string x.f2.f1, .string x.f3] := ⟨[.int .i64 x.f0], [.int .i64 x.f1, .int .i64 x.f2.f0, .string x.f2.f1, .string x.f3], rfl, rfl, ⟨[.int .i64 x.f1], [.int .i64 x.f2.f0, .string x.f2.f1, .string x.f3], rfl, rfl, ⟨[.int .i64 x.f2.f0, .string x.f2.f1], [.string x.f3], rfl, (k32_mkM w base ok x.f2 ), rfl⟩⟩⟩
theorem k34_mkF (W : World) (ok : Nat → Prop) (x : S34) : Kd.FK k34 W ok x [.int .i64 x.f0, .int .i64 x.f1, .int .i64 x.f2.f0, .string x.f2.f1, .string x.f3] := fun W2 _ => k34_mk W2 x
def rd_T34 (xs : List S34) (i : Int) : S34 := xs.getD i.toNat z34
theorem at_T34 {w : World} {A : Option Addr} {n : Nat} {xs : List S34} (h : Kd.C k34 w A n xs) (i : Int) (h0 : 0 ≤ i) (h1 : i < n) : ∃ ad , A = some ad ∧ w.cell? (ad.add (i.toNat * 5)) = some (.int .i64 (rd_T34 xs i).f0) ∧ w.cell? ⟨(ad.add (i.toNat * 5)).block, (ad.add (i.toNat * 5)).off + 1, none⟩ = some (.int .i64 (rd_T34 xs i).f1) ∧ w.cell? ⟨(ad.add (i.toNat * 5)).block, (ad.add (i.toNat * 5)).off + 2, none⟩ = some (.int .i64 (rd_T34 xs i).f2.f0) ∧ w.cell? ⟨(ad.add (i.toNat * 5)).block, (ad.add (i.toNat * 5)).off + 3, none⟩ = some (.string (rd_T34 xs i).f2.f1) ∧ w.cell? ⟨(ad.add (i.toNat * 5)).block, (ad.add (i.toNat * 5)).off + 4, none⟩ = some (.string (rd_T34 xs i).f3) := by
  obtain ⟨ad, c, e, _, hK, hc0⟩ := Kd.C_get h z34 i h0 h1
  have hc : ∀ j u, c[j]? = some u → w.cell? (ad.add (i.toNat * 5 + j)) = some u := hc0
  obtain rfl := k34_open hK
  exact ⟨ad, e, hc 0 _ rfl, by rw [← add_field _ _ 1 (by omega)]; exact hc 1 _ rfl, by rw [← add_field _ _ 2 (by omega)]; exact hc 2 _ rfl, by rw [← add_field _ _ 3 (by omega)]; exact hc 3 _ rfl, by rw [← add_field _ _ 4 (by omega)]; exact hc 4 _ rfl⟩

def rd_L7 (xs : List (List ByteArray)) (i : Int) : (List ByteArray) := xs.getD i.toNat ([] : List ByteArray)
theorem at_L7 {w : World} {A : Option Addr} {n : Nat} {xs : List (List ByteArray)} (h : Kd.C (Kd.slice 9 Kd.string) w A n xs) (i : Int) (h0 : 0 ≤ i) (h1 : i < n) : ∃ ad A0 c0, A = some ad ∧ w.cell? (ad.add i.toNat) = some (.slice A0 (rd_L7 xs i).length c0) ∧ (rd_L7 xs i).length ≤ c0 ∧ Kd.string.C w A0 (rd_L7 xs i).length (rd_L7 xs i) := by
  obtain ⟨ad, c, e, _, hK, hc0⟩ := Kd.C_get h ([] : List ByteArray) i h0 h1
  have hc : ∀ j u, c[j]? = some u → w.cell? (ad.add (i.toNat * 1 + j)) = some u := hc0
  obtain ⟨A0, c0, rfl, l0, g0⟩ := hK
  exact ⟨ad, A0, c0, e, by have hq := hc 0 _ rfl; rwa [Nat.mul_one, Nat.add_zero] at hq, l0, g0⟩

/-! #### struct type 38, nested in itself -/
structure S38 where
  f0 : Int
  f1 : ByteArray
  f2 : ByteArray
  f3 : Int
  f4 : S30
  f5 : Int
  f6 : S32
  f7 : S34
  f8 : (List ByteArray)
  f9 : (List S38)
def z38 : S38 := ⟨(0 : Int), (⟨#[]⟩ : ByteArray), (⟨#[]⟩ : ByteArray), (0 : Int), z30, (0 : Int), z32, z34, ([] : List ByteArray), ([] : List S38)⟩
def F38 (d : Kd S38) : Kd S38 := Kd.iso (Kd.pair (Kd.int .i64) (Kd.pair Kd.string (Kd.pair Kd.string (Kd.pair (Kd.int .i64) (Kd.pair k30 (Kd.pair (Kd.int .i64) (Kd.pair k32 (Kd.pair k34 (Kd.pair (Kd.slice 9 Kd.string) (Kd.slice 38 d)))))))))) (fun x : S38 => (x.f0, x.f1, x.f2, x.f3, x.f4, x.f5, x.f6, x.f7, x.f8, x.f9))
theorem mono38 : Kd.Mono F38 := Kd.mono_iso _ (Kd.mono_pair (Kd.mono_const _) (Kd.mono_pair (Kd.mono_const _) (Kd.mono_pair (Kd.mono_const _) (Kd.mono_pair (Kd.mono_const _) (Kd.mono_pair (Kd.mono_const _) (Kd.mono_pair (Kd.mono_const _) (Kd.mono_pair (Kd.mono_const _) (Kd.mono_pair (Kd.mono_const _) (Kd.mono_pair (Kd.mono_const _) (Kd.mono_slice 38 Kd.mono_id))))))))))
theorem sub38 : Kd.Sub F38 [9, 38] := Kd.sub_iso _ (Kd.sub_pair (Kd.sub_const _ (by decide)) (Kd.sub_pair (Kd.sub_const _ (by decide)) (Kd.sub_pair (Kd.sub_const _ (by decide)) (Kd.sub_pair (Kd.sub_const _ (by decide)) (Kd.sub_pair (Kd.sub_const _ (by decide)) (Kd.sub_pair (Kd.sub_const _ (by decide)) (Kd.sub_pair (Kd.sub_const _ (by decide)) (Kd.sub_pair (Kd.sub_const _ (by decide)) (Kd.sub_pair (Kd.sub_const _ (by decide)) (Kd.sub_slice 38 (by decide) Kd.sub_id))))))))))
theorem sz38 : ∀ n, (Kd.upto F38 16 [9, 38] n).sz = 16 := Kd.upto_sz (fun _ => rfl)
def k38 : Kd S38 := Kd.fix F38 16 [9, 38] sz38 (Kd.upto_E sub38)
theorem k38_open {w : World} {x : S38} {cs : List Value} (h : k38.K w x cs) : ∃ A14 c14 A15 c15, cs = [.int .i64 x.f0, .string x.f1, .string x.f2, .int .i64 x.f3, .int .i64 x.f4.f0, .string x.f4.f1, .int .i64 x.f5, .int .i64 x.f6.f0, .string x.f6.f1, .int .i64 x.f7.f0, .int .i64 x.f7.f1, .int .i64 x.f7.f2.f0, .string x.f7.f2.f1, .string x.f7.f3, .slice A14 x.f8.length c14, .slice A15 x.f9.length c15] ∧ x.f8.length ≤ c14 ∧ Kd.string.C w A14 x.f8.length x.f8 ∧ x.f9.length ≤ c15 ∧ k38.C w A15 x.f9.length x.f9 := by
  obtain ⟨n, h⟩ := h
  cases n with
  | zero => exact h.elim
  | succ n =>
    obtain ⟨_, _, rfl, rfl, ⟨_, _, rfl, rfl, ⟨_, _, rfl, rfl, ⟨_, _, rfl, rfl, ⟨_, _, rfl, s4, ⟨_, _, rfl, rfl, ⟨_, _, rfl, s7, ⟨_, _, rfl, s9, ⟨_, _, rfl, ⟨A14, c14, rfl, l14, g14⟩, ⟨A15, c15, rfl, l15, g15⟩⟩⟩⟩⟩⟩⟩⟩⟩⟩ := h
    obtain rfl := k30_open s4
    obtain rfl := k32_open s7
    obtain rfl := k34_open s9
    exact ⟨A14, c14, A15, c15, rfl, l14, g14, l15, Kd.fix_C g15⟩
theorem k38_openM {w : World} {base : Nat} {ok : Nat → Prop} {x : S38} {cs : List Value} (h : k38.M w base ok x cs) : ∃ v14 v15, cs = [.int .i64 x.f0, .string x.f1, .string x.f2, .int .i64 x.f3, .int .i64 x.f4.f0, .string x.f4.f1, .int .i64 x.f5, .int .i64 x.f6.f0, .string x.f6.f1, .int .i64 x.f7.f0, .int .i64 x.f7.f1, .int .i64 x.f7.f2.f0, .string x.f7.f2.f1, .string x.f7.f3, v14, v15] ∧ Kd.string.R 9 w base ok v14 x.f8 ∧ k38.R 38 w base ok v15 x.f9 := by
  obtain ⟨n, h⟩ := h
  cases n with
  | zero => exact h.elim
  | succ n =>
    obtain ⟨_, _, rfl, rfl, ⟨_, _, rfl, rfl, ⟨_, _, rfl, rfl, ⟨_, _, rfl, rfl, ⟨_, _, rfl, s4, ⟨_, _, rfl, rfl, ⟨_, _, rfl, s7, ⟨_, _, rfl, s9, ⟨_, _, rfl, ⟨v14, rfl, g14⟩, ⟨v15, rfl, g15⟩⟩⟩⟩⟩⟩⟩⟩⟩⟩ := h
    obtain rfl := k30_openM s4
    obtain rfl := k32_openM s7
    obtain rfl := k34_openM s9
    exact ⟨v14, v15, rfl, g14, Kd.fix_R g15⟩
theorem k38_mk (w : World) (x : S38) {A14 : Option Addr} {c14 : Nat} (l14 : x.f8.length ≤ c14) (g14 : Kd.string.C w A14 x.f8.length x.f8) {A15 : Option Addr} {c15 : Nat} (l15 : x.f9.length ≤ c15) (g15 : k38.C w A15 x.f9.length x.f9) : k38.K w x [.int .i64 x.f0, .string x.f1, .string x.f2, .int .i64 x.f3, .int .i64 x.f4.f0, .string x.f4.f1, .int .i64 x.f5, .int .i64 x.f6.f0, .string x.f6.f1, .int .i64 x.f7.f0, .int .i64 x.f7.f1, .int .i64 x.f7.f2.f0, .string x.f7.f2.f1, .string x.f7.f3, .slice A14 x.f8.length c14, .slice A15 x.f9.length c15] := by
  obtain ⟨n15, q15⟩ := Kd.fix_C_back mono38 g15
  have r15 := Kd.upto_C_le mono38 sz38 (show n15 ≤ n15 by omega) q15
  exact ⟨n15 + 1, ⟨[.int .i64 x.f0], [.string x.f1, .string x.f2, .int .i64 x.f3, .int .i64 x.f4.f0, .string x.f4.f1, .int .i64 x.f5, .int .i64 x.f6.f0, .string x.f6.f1, .int .i64 x.f7.f0, .int .i64 x.f7.f1, .int .i64 x.f7.f2.f0, .string x.f7.f2.f1, .string x.f7.f3, .slice A14 x.f8.length c14, .slice A15 x.f9.length c15], rfl, rfl, ⟨[.string x.f1], [.string x.f2, .int .i64 x.f3, .int .i64 x.f4.f0, .string x.f4.f1, .int .i64 x.f5, .int .i64 x.f6.f0, .string x.f6.f1, .int .i64 x.f7.f0, .int .i64 x.f7.f1, .int .i64 x.f7.f2.f0, .string x.f7.f2.f1, .string x.f7.f3, .slice A14 x.f8.length c14, .slice A15 x.f9.length c15], rfl, rfl, ⟨[.string x.f2], [.int .i64 x.f3, .int .i64 x.f4.f0, .string x.f4.f1, .int .i64 x.f5, .int .i64 x.f6.f0, .string x.f6.f1, .int .i64 x.f7.f0, .int .i64 x.f7.f1, .int .i64 x.f7.f2.f0, .string x.f7.f2.f1, .string x.f7.f3, .slice A14 x.f8.length c14, .slice A15 x.f9.length c15], rfl, rfl, ⟨[.int .i64 x.f3], [.int .i64 x.f4.f0, .string x.f4.f1, .int .i64 x.f5, .int .i64 x.f6.f0, .string x.f6.f1, .int .i64 x.f7.f0, .int .i64 x.f7.f1, .int .i64 x.f7.f2.f0, .string x.f7.f2.f1, .string x.f7.f3, .slice A14 x.f8.length c14, .slice A15 x.f9.length c15], rfl, rfl, ⟨[.int .i64 x.f4.f0, .string x.f4.f1], [.int .i64 x.f5, .int .i64 x.f6.f0, .string x.f6.f1, .int .i64 x.f7.f0, .int .i64 x.f7.f1, .int .i64 x.f7.f2.f0, .string x.f7.f2.f1, .string x.f7.f3, .slice A14 x.f8.length c14, .slice A15 x.f9.length c15], rfl, (k30_mk w x.f4 ), ⟨[.int .i64 x.f5], [.int .i64 x.f6.f0, .string x.f6.f1, .int .i64 x.f7.f0, .int .i64 x.f7.f1, .int .i64 x.f7.f2.f0, .string x.f7.f2.f1, .string x.f7.f3, .slice A14 x.f8.length c14, .slice A15 x.f9.length c15], rfl, rfl, ⟨[.int .i64 x.f6.f0, .string x.f6.f1], [.int .i64 x.f7.f0, .int .i64 x.f7.f1, .int .i64 x.f7.f2.f0, .string x.f7.f2.f1, .string x.f7.f3, .slice A14 x.f8.length c14, .slice A15 x.f9.length c15], rfl, (k32_mk w x.f6 ), ⟨[.int .i64 x.f7.f0, .int .i64 x.f7.f1, .int .i64 x.f7.f2.f0, .string x.f7.f2.f1, .string x.f7.f3], [.slice A14 x.f8.length c14, .slice A15 x.f9.length c15], rfl, (k34_mk w x.f7 ), ⟨[.slice A14 x.f8.length c14], [.slice A15 x.f9.length c15], rfl, ⟨A14, c14, rfl, l14, g14⟩, ⟨A15, c15, rfl, l15, r15⟩⟩⟩⟩⟩⟩⟩⟩⟩⟩⟩
theorem k38_mkM (w : World) (base : Nat) (ok : Nat → Prop) (x : S38) {v14 : Value} (g14 : Kd.string.R 9 w base ok v14 x.f8) {v15 : Value} (g15 : k38.R 38 w base ok v15 x.f9) : k38.M w base ok x [.int .i64 x.f0, .string x.f1, .string x.f2, .int .i64 x.f3, .int .i64 x.f4.f0, .string x.f4.f1, .int .i64 x.f5, .int .i64 x.f6.f0, .string x.f6.f1, .int .i64 x.f7.f0, .int .i64 x.f7.f1, .int .i64 x.f7.f2.f0, .string x.f7.f2.f1, .string x.f7.f3, v14, v15] := by
  obtain ⟨n15, q15⟩ := Kd.fix_R_back mono38 g15
  have r15 := Kd.upto_R_le mono38 sz38 (show n15 ≤ n15 by omega) q15
  exact ⟨n15 + 1, ⟨[.int .i64 x.f0], [.string x.f1, .string x.f2, .int .i64 x.f3, .int .i64 x.f4.f0, .string x.f4.f1, .int .i64 x.f5, .int .i64 x.f6.f0, .string x.f6.f1, .int .i64 x.f7.f0, .int .i64 x.f7.f1, .int .i64 x.f7.f2.f0, .string x.f7.f2.f1, .string x.f7.f3, v14, v15], rfl, rfl, ⟨[.string x.f1], [.string x.f2, .int .i64 x.f3, .int .i64 x.f4.f0, .string x.f4.f1, .int .i64 x.f5, .int .i64 x.f6.f0, .string x.f6.f1, .int .i64 x.f7.f0, .int .i64 x.f7.f1, .int .i64 x.f7.f2.f0, .string x.f7.f2.f1, .string x.f7.f3, v14, v15], rfl, rfl, ⟨[.string x.f2], [.int .i64 x.f3, .int .i64 x.f4.f0, .string x.f4.f1, .int .i64 x.f5, .int .i64 x.f6.f0, .string x.f6.f1, .int .i64 x.f7.f0, .int .i64 x.f7.f1, .int .i64 x.f7.f2.f0, .string x.f7.f2.f1, .string x.f7.f3, v14, v15], rfl, rfl, ⟨[.int .i64 x.f3], [.int .i64 x.f4.f0, .string x.f4.f1, .int .i64 x.f5, .int .i64 x.f6.f0, .string x.f6.f1, .int .i64 x.f7.f0, .int .i64 x.f7.f1, .int .i64 x.f7.f2.f0, .string x.f7.f2.f1, .string x.f7.f3, v14, v15], rfl, rfl, ⟨[.int .i64 x.f4.f0, .string x.f4.f1], [.int .i64 x.f5, .int .i64 x.f6.f0, .string x.f6.f1, .int .i64 x.f7.f0, .int .i64 x.f7.f1, .int .i64 x.f7.f2.f0, .string x.f7.f2.f1, .string x.f7.f3, v14, v15], rfl, (k30_mkM w base ok x.f4 ), ⟨[.int .i64 x.f5], [.int .i64 x.f6.f0, .string x.f6.f1, .int .i64 x.f7.f0, .int .i64 x.f7.f1, .int .i64 x.f7.f2.f0, .string x.f7.f2.f1, .string x.f7.f3, v14, v15], rfl, rfl, ⟨[.int .i64 x.f6.f0, .string x.f6.f1], [.int .i64 x.f7.f0, .int .i64 x.f7.f1, .int .i64 x.f7.f2.f0, .string x.f7.f2.f1, .string x.f7.f3, v14, v15], rfl, (k32_mkM w base ok x.f6 ), ⟨[.int .i64 x.f7.f0, .int .i64 x.f7.f1, .int .i64 x.f7.f2.f0, .string x.f7.f2.f1, .string x.f7.f3], [v14, v15], rfl, (k34_mkM w base ok x.f7 ), ⟨[v14], [v15], rfl, ⟨v14, rfl, g14⟩, ⟨v15, rfl, r15⟩⟩⟩⟩⟩⟩⟩⟩⟩⟩⟩
theorem k38_openF {W : World} {ok : Nat → Prop} {x : S38} {cs : List Value} (h : Kd.FK k38 W ok x cs) : ∃ A14 c14 A15 c15, cs = [.int .i64 x.f0, .string x.f1, .string x.f2, .int .i64 x.f3, .int .i64 x.f4.f0, .string x.f4.f1, .int .i64 x.f5, .int .i64 x.f6.f0, .string x.f6.f1, .int .i64 x.f7.f0, .int .i64 x.f7.f1, .int .i64 x.f7.f2.f0, .string x.f7.f2.f1, .string x.f7.f3, .slice A14 x.f8.length c14, .slice A15 x.f9.length c15] ∧ x.f8.length ≤ c14 ∧ Kd.F Kd.string W ok A14 x.f8.length x.f8 ∧ x.f9.length ≤ c15 ∧ Kd.F k38 W ok A15 x.f9.length x.f9 := by
  obtain ⟨A14, c14, A15, c15, rfl, l14, _, l15, _⟩ := k38_open (Kd.FK_now h)
  exact ⟨A14, c14, A15, c15, rfl, l14, (fun W' hW => by obtain ⟨A14_, c14_, A15_, c15_, he, l14_, g14_, l15_, g15_⟩ := k38_open (h W' hW); injection (Option.some.inj (show some (Value.slice A14 x.f8.length c14) = some (Value.slice A14_ x.f8.length c14_) from congrArg (fun l => l[14]?) he)) with ha_ _ _; rw [ha_]; exact g14_), l15, (fun W' hW => by obtain ⟨A14_, c14_, A15_, c15_, he, l14_, g14_, l15_, g15_⟩ := k38_open (h W' hW); injection (Option.some.inj (show some (Value.slice A15 x.f9.length c15) = some (Value.slice A15_ x.f9.length c15_) from congrArg (fun l => l[15]?) he)) with ha_ _ _; rw [ha_]; exact g15_)⟩
theorem k38_mkF (W : World) (ok : Nat → Prop) (x : S38) {A14 : Option Addr} {c14 : Nat} (l14 : x.f8.length ≤ c14) (g14 : Kd.F Kd.string W ok A14 x.f8.length x.f8) {A15 : Option Addr} {c15 : Nat} (l15 : x.f9.length ≤ c15) (g15 : Kd.F k38 W ok A15 x.f9.length x.f9) : Kd.FK k38 W ok x [.int .i64 x.f0, .string x.f1, .string x.f2, .int .i64 x.f3, .int .i64 x.f4.f0, .string x.f4.f1, .int .i64 x.f5, .int .i64 x.f6.f0, .string x.f6.f1, .int .i64 x.f7.f0, .int .i64 x.f7.f1, .int .i64 x.f7.f2.f0, .string x.f7.f2.f1, .string x.f7.f3, .slice A14 x.f8.length c14, .slice A15 x.f9.length c15] := fun W2 hW => k38_mk W2 x l14 (g14 W2 hW) l15 (g15 W2 hW)
def rd_T38 (xs : List S38) (i : Int) : S38 := xs.getD i.toNat z38
theorem at_T38 {w : World} {A : Option Addr} {n : Nat} {xs : List S38} (h : Kd.C k38 w A n xs) (i : Int) (h0 : 0 ≤ i) (h1 : i < n) : ∃ ad A14 c14 A15 c15, A = some ad ∧ w.cell? (ad.add (i.toNat * 16)) = some (.int .i64 (rd_T38 xs i).f0) ∧ w.cell? ⟨(ad.add (i.toNat * 16)).block, (ad.add (i.toNat * 16)).off + 1, none⟩ = some (.string (rd_T38 xs i).f1) ∧ w.cell? ⟨(ad.add (i.toNat * 16)).block, (ad.add (i.toNat * 16)).off + 2, none⟩ = some (.string (rd_T38 xs i).f2) ∧ w.cell? ⟨(ad.add (i.toNat * 16)).block, (ad.add (i.toNat * 16)).off + 3, none⟩ = some (.int .i64 (rd_T38 xs i).f3) ∧ w.cell? ⟨(ad.add (i.toNat * 16)).block, (ad.add (i.toNat * 16)).off + 4, none⟩ = some (.int .i64 (rd_T38 xs i).f4.f0) ∧ w.cell? ⟨(ad.add (i.toNat * 16)).block, (ad.add (i.toNat * 16)).off + 5, none⟩ = some (.string (rd_T38 xs i).f4.f1) ∧ w.cell? ⟨(ad.add (i.toNat * 16)).block, (ad.add (i.toNat * 16)).off + 6, none⟩ = some (.int .i64 (rd_T38 xs i).f5) ∧ w.cell? ⟨(ad.add (i.toNat * 16)).block, (ad.add (i.toNat * 16)).off + 7, none⟩ = some (.int .i64 (rd_T38 xs i).f6.f0) ∧ w.cell? ⟨(ad.add (i.toNat * 16)).block, (ad.add (i.toNat * 16)).off + 8, none⟩ = some (.string (rd_T38 xs i).f6.f1) ∧ w.cell? ⟨(ad.add (i.toNat * 16)).block, (ad.add (i.toNat * 16)).off + 9, none⟩ = some (.int .i64 (rd_T38 xs i).f7.f0) ∧ w.cell? ⟨(ad.add (i.toNat * 16)).block, (ad.add (i.toNat * 16)).off + 10, none⟩ = some (.int .i64 (rd_T38 xs i).f7.f1) ∧ w.cell? ⟨(ad.add (i.toNat * 16)).block, (ad.add (i.toNat * 16)).off + 11, none⟩ = some (.int .i64 (rd_T38 xs i).f7.f2.f0) ∧ w.cell? ⟨(ad.add (i.toNat * 16)).block, (ad.add (i.toNat * 16)).off + 12, none⟩ = some (.string (rd_T38 xs i).f7.f2.f1) ∧ w.cell? ⟨(ad.add (i.toNat * 16)).block, (ad.add (i.toNat * 16)).off + 13, none⟩ = some (.string (rd_T38 xs i).f7.f3) ∧ w.cell? ⟨(ad.add (i.toNat * 16)).block, (ad.add (i.toNat * 16)).off + 14, none⟩ = some (.slice A14 (rd_T38 xs i).f8.length c14) ∧ w.cell? ⟨(ad.add (i.toNat * 16)).block, (ad.add (i.toNat * 16)).off + 15, none⟩ = some (.slice A15 (rd_T38 xs i).f9.length c15) ∧ (rd_T38 xs i).f8.length ≤ c14 ∧ Kd.string.C w A14 (rd_T38 xs i).f8.length (rd_T38 xs i).f8 ∧ (rd_T38 xs i).f9.length ≤ c15 ∧ k38.C w A15 (rd_T38 xs i).f9.length (rd_T38 xs i).f9 := by
  obtain ⟨ad, c, e, _, hK, hc0⟩ := Kd.C_get h z38 i h0 h1
  have hc : ∀ j u, c[j]? = some u → w.cell? (ad.add (i.toNat * 16 + j)) = some u := hc0
  obtain ⟨A14, c14, A15, c15, rfl, l14, g14, l15, g15⟩ := k38_open hK
  exact ⟨ad, A14, c14, A15, c15, e, hc 0 _ rfl, by rw [← add_field _ _ 1 (by omega)]; exact hc 1 _ rfl, by rw [← add_field _ _ 2 (by omega)]; exact hc 2 _ rfl, by rw [← add_field _ _ 3 (by omega)]; exact hc 3 _ rfl, by rw [← add_field _ _ 4 (by omega)]; exact hc 4 _ rfl, by rw [← add_field _ _ 5 (by omega)]; exact hc 5 _ rfl, by rw [← add_field _ _ 6 (by omega)]; exact hc 6 _ rfl, by rw [← add_field _ _ 7 (by omega)]; exact hc 7 _ rfl, by rw [← add_field _ _ 8 (by omega)]; exact hc 8 _ rfl, by rw [← add_field _ _ 9 (by omega)]; exact hc 9 _ rfl, by rw [← add_field _ _ 10 (by omega)]; exact hc 10 _ rfl, by rw [← add_field _ _ 11 (by omega)]; exact hc 11 _ rfl, by rw [← add_field _ _ 12 (by omega)]; exact hc 12 _ rfl, by rw [← add_field _ _ 13 (by omega)]; exact hc 13 _ rfl, by rw [← add_field _ _ 14 (by omega)]; exact hc 14 _ rfl, by rw [← add_field _ _ 15 (by omega)]; exact hc 15 _ rfl, l14, g14, l15, g15⟩

/-! #### struct type 145 -/
structure S145 where
  f0 : ByteArray
  f1 : Bool
  f2 : S38
def z145 : S145 := ⟨(⟨#[]⟩ : ByteArray), false, z38⟩
def k145 : Kd S145 := Kd.iso (Kd.pair Kd.string (Kd.pair Kd.bool k38)) (fun x : S145 => (x.f0, x.f1, x.f2))
theorem k145_open {w : World} {x : S145} {cs : List Value} (h : k145.K w x cs) : ∃ A16 c16 A17 c17, cs = [.string x.f0, .bool x.f1, .int .i64 x.f2.f0, .string x.f2.f1, .string x.f2.f2, .int .i64 x.f2.f3, .int .i64 x.f2.f4.f0, .string x.f2.f4.f1, .int .i64 x.f2.f5, .int .i64 x.f2.f6.f0, .string x.f2.f6.f1, .int .i64 x.f2.f7.f0, .int .i64 x.f2.f7.f1, .int .i64 x.f2.f7.f2.f0, .string x.f2.f7.f2.f1, .string x.f2.f7.f3, .slice A16 x.f2.f8.length c16, .slice A17 x.f2.f9.length c17] ∧ x.f2.f8.length ≤ c16 ∧ Kd.string.C w A16 x.f2.f8.length x.f2.f8 ∧ x.f2.f9.length ≤ c17 ∧ k38.C w A17 x.f2.f9.length x.f2.f9 := by
  obtain ⟨_, _, rfl, rfl, ⟨_, _, rfl, rfl, s2⟩⟩ := h
  obtain ⟨A16, c16, A17, c17, rfl, l16, g16, l17, g17⟩ := k38_open s2
  exact ⟨A16, c16, A17, c17, rfl, l16, g16, l17, g17⟩
theorem k145_openM {w : World} {base : Nat} {ok : Nat → Prop} {x : S145} {cs : List Value} (h : k145.M w base ok x cs) : ∃ v16 v17, cs = [.string x.f0, .bool x.f1, .int .i64 x.f2.f0, .string x.f2.f1, .string x.f2.f2, .int .i64 x.f2.f3, .int .i64 x.f2.f4.f0, .string x.f2.f4.f1, .int .i64 x.f2.f5, .int .i64 x.f2.f6.f0, .string x.f2.f6.f1, .int .i64 x.f2.f7.f0, .int .i64 x.f2.f7.f1, .int .i64 x.f2.f7.f2.f0, .string x.f2.f7.f2.f1, .string x.f2.f7.f3, v16, v17] ∧ Kd.string.R 9 w base ok v16 x.f2.f8 ∧ k38.R 38 w base ok v17 x.f2.f9 := by
  obtain ⟨_, _, rfl, rfl, ⟨_, _, rfl, rfl, s2⟩⟩ := h
  obtain ⟨v16, v17, rfl, g16, g17⟩ := k38_openM s2
  exact ⟨v16, v17, rfl, g16, g17⟩
theorem k145_mk (w : World) (x : S145) {A16 : Option Addr} {c16 : Nat} (l16 : x.f2.f8.length ≤ c16) (g16 : Kd.string.C w A16 x.f2.f8.length x.f2.f8) {A17 : Option Addr} {c17 : Nat} (l17 : x.f2.f9.length ≤ c17) (g17 : k38.C w A17 x.f2.f9.length x.f2.f9) : k145.K w x [.string x.f0, .bool x.f1, .int .i64 x.f2.f0, .string x.f2.f1, .string x.f2.f2, .int .i64 x.f2.f3, .int .i64 x.f2.f4.f0, .string x.f2.f4.f1, .int .i64 x.f2.f5, .int .i64 x.f2.f6.f0, .string x.f2.f6.f1, .int .i64 x.f2.f7.f0, .int .i64 x.f2.f7.f1, .int .i64 x.f2.f7.f2.f0, .string x.f2.f7.f2.f1, .string x.f2.f7.f3, .slice A16 x.f2.f8.length c16, .slice A17 x.f2.f9.length c17] := ⟨[.string x.f0], [.bool x.f1, .int .i64 x.f2.f0, .string x.f2.f1, .string x.f2.f2, .int .i64 x.f2.f3, .int .i64 x.f2.f4.f0, .string x.f2.f4.f1, .int .i64 x.f2.f5, .int .i64 x.f2.f6.f0, .string x.f2.f6.f1, .int .i64 x.f2.f7.f0, .int .i64 x.f2.f7.f1, .int .i64 x.f2.f7.f2.f0, .string x.f2.f7.f2.f1, .string x.f2.f7.f3, .slice A16 x.f2.f8.length c16, .slice A17 x.f2.f9.length c17], rfl, rfl, ⟨[.bool x.f1], [.int .i64 x.f2.f0, .string x.f2.f1, .string x.f2.f2, .int .i64 x.f2.f3, .int .i64 x.f2.f4.f0, .string x.f2.f4.f1, .int .i64 x.f2.f5, .int .i64 x.f2.f6.f0, .string x.f2.f6.f1, .int .i64 x.f2.f7.f0, .int .i64 x.f2.f7.f1, .int .i64 x.f2.f7.f2.f0, .string x.f2.f7.f2.f1, .string x.f2.f7.f3, .slice A16 x.f2.f8.length c16, .slice A17 x.f2.f9.length c17], rfl, rfl, (k38_mk w x.f2 l16 g16 l17 g17)⟩⟩
theorem k145_mkM (w : World) (base : Nat) (ok : Nat → Prop) (x : S145) {v16 : Value} (g16 : Kd.string.R 9 w base ok v16 x.f2.f8) {v17 : Value} (g17 : k38.R 38 w base ok v17 x.f2.f9) : k145.M w base ok x [.string x.f0, .bool x.f1, .int .i64 x.f2.f0, .string x.f2.f1, .string x.f2.f2, .int .i64 x.f2.f3, .int .i64 x.f2.f4.f0, .string x.f2.f4.f1, .int .i64 x.f2.f5, .int .i64 x.f2.f6.f0, .string x.f2.f6.f1, .int .i64 x.f2.f7.f0, .int .i64 x.f2.f7.f1, .int .i64 x.f2.f7.f2.f0, .string x.f2.f7.f2.f1, .string x.f2.f7.f3, v16, v17] := ⟨[.string x.f0], [.bool x.f1, .int .i64 x.f2.f0, .string x.f2.f1, .string x.f2.f2, .int .i64 x.f2.f3, .int .i64 x.f2.f4.f0, .string x.f2.f4.f1, .int .i64 x.f2.f5, .int .i64 x.f2.f6.f0, .string x.f2.f6.f1, .int .i64 x.f2.f7.f0, .int .i64 x.f2.f7.f1, .int .i64 x.f2.f7.f2.f0, .string x.f2.f7.f2.f1, .string x.f2.f7.f3, v16, v17], rfl, rfl, ⟨[.bool x.f1], [.int .i64 x.f2.f0, .string x.f2.f1, .string x.f2.f2, .int .i64 x.f2.f3, .int .i64 x.f2.f4.f0, .string x.f2.f4.f1, .int .i64 x.f2.f5, .int .i64 x.f2.f6.f0, .string x.f2.f6.f1, .int .i64 x.f2.f7.f0, .int .i64 x.f2.f7.f1, .int .i64 x.f2.f7.f2.f0, .string x.f2.f7.f2.f1, .string x.f2.f7.f3, v16, v17], rfl, rfl, (k38_mkM w base ok x.f2 g16 g17)⟩⟩
theorem k145_openF {W : World} {ok : Nat → Prop} {x : S145} {cs : List Value} (h : Kd.FK k145 W ok x cs) : ∃ A16 c16 A17 c17, cs = [.string x.f0, .bool x.f1, .int .i64 x.f2.f0, .string x.f2.f1, .string x.f2.f2, .int .i64 x.f2.f3, .int .i64 x.f2.f4.f0, .string x.f2.f4.f1, .int .i64 x.f2.f5, .int .i64 x.f2.f6.f0, .string x.f2.f6.f1, .int .i64 x.f2.f7.f0, .int .i64 x.f2.f7.f1, .int .i64 x.f2.f7.f2.f0, .string x.f2.f7.f2.f1, .string x.f2.f7.f3, .slice A16 x.f2.f8.length c16, .slice A17 x.f2.f9.length c17] ∧ x.f2.f8.length ≤ c16 ∧ Kd.F Kd.string W ok A16 x.f2.f8.length x.f2.f8 ∧ x.f2.f9.length ≤ c17 ∧ Kd.F k38 W ok A17 x.f2.f9.length x.f2.f9 := by
  obtain ⟨A16, c16, A17, c17, rfl, l16, _, l17, _⟩ := k145_open (Kd.FK_now h)
  exact ⟨A16, c16, A17, c17, rfl, l16, (fun W' hW => by obtain ⟨A16_, c16_, A17_, c17_, he, l16_, g16_, l17_, g17_⟩ := k145_open (h W' hW); injection (Option.some.inj (show some (Value.slice A16 x.f2.f8.length c16) = some (Value.slice A16_ x.f2.f8.length c16_) from congrArg (fun l => l[16]?) he)) with ha_ _ _; rw [ha_]; exact g16_), l17, (fun W' hW => by obtain ⟨A16_, c16_, A17_, c17_, he, l16_, g16_, l17_, g17_⟩ := k145_open (h W' hW); injection (Option.some.inj (show some (Value.slice A17 x.f2.f9.length c17) = some (Value.slice A17_ x.f2.f9.length c17_) from congrArg (fun l => l[17]?) he)) with ha_ _ _; rw [ha_]; exact g17_)⟩
theorem k145_mkF (W : World) (ok : Nat → Prop) (x : S145) {A16 : Option Addr} {c16 : Nat} (l16 : x.f2.f8.length ≤ c16) (g16 : Kd.F Kd.string W ok A16 x.f2.f8.length x.f2.f8) {A17 : Option Addr} {c17 : Nat} (l17 : x.f2.f9.length ≤ c17) (g17 : Kd.F k38 W ok A17 x.f2.f9.length x.f2.f9) : Kd.FK k145 W ok x [.string x.f0, .bool x.f1, .int .i64 x.f2.f0, .string x.f2.f1, .string x.f2.f2, .int .i64 x.f2.f3, .int .i64 x.f2.f4.f0, .string x.f2.f4.f1, .int .i64 x.f2.f5, .int .i64 x.f2.f6.f0, .string x.f2.f6.f1, .int .i64 x.f2.f7.f0, .int .i64 x.f2.f7.f1, .int .i64 x.f2.f7.f2.f0, .string x.f2.f7.f2.f1, .string x.f2.f7.f3, .slice A16 x.f2.f8.length c16, .slice A17 x.f2.f9.length c17] := fun W2 hW => k145_mk W2 x l16 (g16 W2 hW) l17 (g17 W2 hW)
def rd_T145 (xs : List S145) (i : Int) : S145 := xs.getD i.toNat z145
theorem at_T145 {w : World} {A : Option Addr} {n : Nat} {xs : List S145} (h : Kd.C k145 w A n xs) (i : Int) (h0 : 0 ≤ i) (h1 : i < n) : ∃ ad A16 c16 A17 c17, A = some ad ∧ w.cell? (ad.add (i.toNat * 18)) = some (.string (rd_T145 xs i).f0) ∧ w.cell? ⟨(ad.add (i.toNat * 18)).block, (ad.add (i.toNat * 18)).off + 1, none⟩ = some (.bool (rd_T145 xs i).f1) ∧ w.cell? ⟨(ad.add (i.toNat * 18)).block, (ad.add (i.toNat * 18)).off + 2, none⟩ = some (.int .i64 (rd_T145 xs i).f2.f0) ∧ w.cell? ⟨(ad.add (i.toNat * 18)).block, (ad.add (i.toNat * 18)).off + 3, none⟩ = some (.string (rd_T145 xs i).f2.f1) ∧ w.cell? ⟨(ad.add (i.toNat * 18)).block, (ad.add (i.toNat * 18)).off + 4, none⟩ = some (.string (rd_T145 xs i).f2.f2) ∧ w.cell? ⟨(ad.add (i.toNat * 18)).block, (ad.add (i.toNat * 18)).off + 5, none⟩ = some (.int .i64 (rd_T145 xs i).f2.f3) ∧ w.cell? ⟨(ad.add (i.toNat * 18)).block, (ad.add (i.toNat * 18)).off + 6, none⟩ = some (.int .i64 (rd_T145 xs i).f2.f4.f0) ∧ w.cell? ⟨(ad.add (i.toNat * 18)).block, (ad.add (i.toNat * 18)).off + 7, none⟩ = some (.string (rd_T145 xs i).f2.f4.f1) ∧ w.cell? ⟨(ad.add (i.toNat * 18)).block, (ad.add (i.toNat * 18)).off + 8, none⟩ = some (.int .i64 (rd_T145 xs i).f2.f5) ∧ w.cell? ⟨(ad.add (i.toNat * 18)).block, (ad.add (i.toNat * 18)).off + 9, none⟩ = some (.int .i64 (rd_T145 xs i).f2.f6.f0) ∧ w.cell? ⟨(ad.add (i.toNat * 18)).block, (ad.add (i.toNat * 18)).off + 10, none⟩ = some (.string (rd_T145 xs i).f2.f6.f1) ∧ w.cell? ⟨(ad.add (i.toNat * 18)).block, (ad.add (i.toNat * 18)).off + 11, none⟩ = some (.int .i64 (rd_T145 xs i).f2.f7.f0) ∧ w.cell? ⟨(ad.add (i.toNat * 18)).block, (ad.add (i.toNat * 18)).off + 12, none⟩ = some (.int .i64 (rd_T145 xs i).f2.f7.f1) ∧ w.cell? ⟨(ad.add (i.toNat * 18)).block, (ad.add (i.toNat * 18)).off + 13, none⟩ = some (.int .i64 (rd_T145 xs i).f2.f7.f2.f0) ∧ w.cell? ⟨(ad.add (i.toNat * 18)).block, (ad.add (i.toNat * 18)).off + 14, none⟩ = some (.string (rd_T145 xs i).f2.f7.f2.f1) ∧ w.cell? ⟨(ad.add (i.toNat * 18)).block, (ad.add (i.toNat * 18)).off + 15, none⟩ = some (.string (rd_T145 xs i).f2.f7.f3) ∧ w.cell? ⟨(ad.add (i.toNat * 18)).block, (ad.add (i.toNat * 18)).off + 16, none⟩ = some (.slice A16 (rd_T145 xs i).f2.f8.length c16) ∧ w.cell? ⟨(ad.add (i.toNat * 18)).block, (ad.add (i.toNat * 18)).off + 17, none⟩ = some (.slice A17 (rd_T145 xs i).f2.f9.length c17) ∧ (rd_T145 xs i).f2.f8.length ≤ c16 ∧ Kd.string.C w A16 (rd_T145 xs i).f2.f8.length (rd_T145 xs i).f2.f8 ∧ (rd_T145 xs i).f2.f9.length ≤ c17 ∧ k38.C w A17 (rd_T145 xs i).f2.f9.length (rd_T145 xs i).f2.f9 := by
  obtain ⟨ad, c, e, _, hK, hc0⟩ := Kd.C_get h z145 i h0 h1
  have hc : ∀ j u, c[j]? = some u → w.cell? (ad.add (i.toNat * 18 + j)) = some u := hc0
  obtain ⟨A16, c16, A17, c17, rfl, l16, g16, l17, g17⟩ := k145_open hK
  exact ⟨ad, A16, c16, A17, c17, e, hc 0 _ rfl, by rw [← add_field _ _ 1 (by omega)]; exact hc 1 _ rfl, by rw [← add_field _ _ 2 (by omega)]; exact hc 2 _ rfl, by rw [← add_field _ _ 3 (by omega)]; exact hc 3 _ rfl, by rw [← add_field _ _ 4 (by omega)]; exact hc 4 _ rfl, by rw [← add_field _ _ 5 (by omega)]; exact hc 5 _ rfl, by rw [← add_field _ _ 6 (by omega)]; exact hc 6 _ rfl, by rw [← add_field _ _ 7 (by omega)]; exact hc 7 _ rfl, by rw [← add_field _ _ 8 (by omega)]; exact hc 8 _ rfl, by rw [← add_field _ _ 9 (by omega)]; exact hc 9 _ rfl, by rw [← add_field _ _ 10 (by omega)]; exact hc 10 _ rfl, by rw [← add_field _ _ 11 (by omega)]; exact hc 11 _ rfl, by rw [← add_field _ _ 12 (by omega)]; exact hc 12 _ rfl, by rw [← add_field _ _ 13 (by omega)]; exact hc 13 _ rfl, by rw [← add_field _ _ 14 (by omega)]; exact hc 14 _ rfl, by rw [← add_field _ _ 15 (by omega)]; exact hc 15 _ rfl, by rw [← add_field _ _ 16 (by omega)]; exact hc 16 _ rfl, by rw [← add_field _ _ 17 (by omega)]; exact hc 17 _ rfl, l16, g16, l17, g17⟩

/-! #### struct type 161 -/
structure S161 where
  f0 : S38
  f1 : Bool
  f2 : Bool
  f3 : ByteArray
def z161 : S161 := ⟨z38, false, false, (⟨#[]⟩ : ByteArray)⟩
def k161 : Kd S161 := Kd.iso (Kd.pair k38 (Kd.pair Kd.bool (Kd.pair Kd.bool Kd.string))) (fun x : S161 => (x.f0, x.f1, x.f2, x.f3))
theorem k161_open {w : World} {x : S161} {cs : List Value} (h : k161.K w x cs) : ∃ A14 c14 A15 c15, cs = [.int .i64 x.f0.f0, .string x.f0.f1, .string x.f0.f2, .int .i64 x.f0.f3, .int .i64 x.f0.f4.f0, .string x.f0.f4.f1, .int .i64 x.f0.f5, .int .i64 x.f0.f6.f0, .string x.f0.f6.f1, .int .i64 x.f0.f7.f0, .int .i64 x.f0.f7.f1, .int .i64 x.f0.f7.f2.f0, .string x.f0.f7.f2.f1, .string x.f0.f7.f3, .slice A14 x.f0.f8.length c14, .slice A15 x.f0.f9.length c15, .bool x.f1, .bool x.f2, .string x.f3] ∧ x.f0.f8.length ≤ c14 ∧ Kd.string.C w A14 x.f0.f8.length x.f0.f8 ∧ x.f0.f9.length ≤ c15 ∧ k38.C w A15 x.f0.f9.length x.f0.f9 := by
  obtain ⟨_, _, rfl, s0, ⟨_, _, rfl, rfl, ⟨_, _, rfl, rfl, rfl⟩⟩⟩ := h
  obtain ⟨A14, c14, A15, c15, rfl, l14, g14, l15, g15⟩ := k38_open s0
  exact ⟨A14, c14, A15, c15, rfl, l14, g14, l15, g15⟩
theorem k161_openM {w : World} {base : Nat} {ok : Nat → Prop} {x : S161} {cs : List Value} (h : k161.M w base ok x cs) : ∃ v14 v15, cs = [.int .i64 x.f0.f0, .string x.f0.f1, .string x.f0.f2, .int .i64 x.f0.f3, .int .i64 x.f0.f4.f0, .string x.f0.f4.f1, .int .i64 x.f0.f5, .int .i64 x.f0.f6.f0, .string x.f0.f6.f1, .int .i64 x.f0.f7.f0, .int .i64 x.f0.f7.f1, .int .i64 x.f0.f7.f2.f0, .string x.f0.f7.f2.f1, .string x.f0.f7.f3, v14, v15, .bool x.f1, .bool x.f2, .string x.f3] ∧ Kd.string.R 9 w base ok v14 x.f0.f8 ∧ k38.R 38 w base ok v15 x.f0.f9 := by
  obtain ⟨_, _, rfl, s0, ⟨_, _, rfl, rfl, ⟨_, _, rfl, rfl, rfl⟩⟩⟩ := h
  obtain ⟨v14, v15, rfl, g14, g15⟩ := k38_openM s0
  exact ⟨v14, v15, rfl, g14, g15⟩
theorem k161_mk (w : World) (x : S161) {A14 : Option Addr} {c14 : Nat} (l14 : x.f0.f8.length ≤ c14) (g14 : Kd.string.C w A14 x.f0.f8.length x.f0.f8) {A15 : Option Addr} {c15 : Nat} (l15 : x.f0.f9.length ≤ c15) (g15 : k38.C w A15 x.f0.f9.length x.f0.f9) : k161.K w x [.int .i64 x.f0.f0, .string x.f0.f1, .string x.f0.f2, .int .i64 x.f0.f3, .int .i64 x.f0.f4.f0, .string x.f0.f4.f1, .int .i64 x.f0.f5, .int .i64 x.f0.f6.f0, .string x.f0.f6.f1, .int .i64 x.f0.f7.f0, .int .i64 x.f0.f7.f1, .int .i64 x.f0.f7.f2.f0, .string x.f0.f7.f2.f1, .string x.f0.f7.f3, .slice A14 x.f0.f8.length c14, .slice A15 x.f0.f9.length c15, .bool x.f1, .bool x.f2, .string x.f3] := ⟨[.int .i64 x.f0.f0, .string x.f0.f1, .string x.f0.f2, .int .i64 x.f0.f3, .int .i64 x.f0.f4.f0, .string x.f0.f4.f1, .int .i64 x.f0.f5, .int .i64 x.f0.f6.f0, .string x.f0.f6.f1, .int .i64 x.f0.f7.f0, .int .i64 x.f0.f7.f1, .int .i64 x.f0.f7.f2.f0, .string x.f0.f7.f2.f1, .string x.f0.f7.f3, .slice A14 x.f0.f8.length c14, .slice A15 x.f0.f9.length c15], [.bool x.f1, .bool x.f2, .string x.f3], rfl, (k38_mk w x.f0 l14 g14 l15 g15), ⟨[.bool x.f1], [.bool x.f2, .string x.f3], rfl, rfl, ⟨[.bool x.f2], [.string x.f3], rfl, rfl, rfl⟩⟩⟩
theorem k161_mkM (w : World) (base : Nat) (ok : Nat → Prop) (x : S161) {v14 : Value} (g14 : Kd.string.R 9 w base ok v14 x.f0.f8) {v15 : Value} (g15 : k38.R 38 w base ok v15 x.f0.f9) : k161.M w base ok x [.int .i64 x.f0.f0, .string x.f0.f1, .string x.f0.f2, .int .i64 x.f0.f3, .int .i64 x.f0.f4.f0, .string x.f0.f4.f1, .int .i64 x.f0.f5, .int .i64 x.f0.f6.f0, .string x.f0.f6.f1, .int .i64 x.f0.f7.f0, .int .i64 x.f0.f7.f1, .int .i64 x.f0.f7.f2.f0, .string x.f0.f7.f2.f1, .string x.f0.f7.f3, v14, v15, .bool x.f1, .bool x.f2, .string x.f3] := ⟨[.int .i64 x.f0.f0, .string x.f0.f1, .string x.f0.f2, .int .i64 x.f0.f3, .int .i64 x.f0.f4.f0, .string x.f0.f4.f1, .int .i64 x.f0.f5, .int .i64 x.f0.f6.f0, .string x.f0.f6.f1, .int .i64 x.f0.f7.f0, .int .i64 x.f0.f7.f1, .int .i64 x.f0.f7.f2.f0, .string x.f0.f7.f2.f1, .string x.f0.f7.f3, v14, v15], [.bool x.f1, .bool x.f2, .string x.f3], rfl, (k38_mkM w base ok x.f0 g14 g15), ⟨[.bool x.f1], [.bool x.f2, .string x.f3], rfl, rfl, ⟨[.bool x.f2], [.string x.f3], rfl, rfl, rfl⟩⟩⟩
theorem k161_openF {W : World} {ok : Nat → Prop} {x : S161} {cs : List Value} (h : Kd.FK k161 W ok x cs) : ∃ A14 c14 A15 c15, cs = [.int .i64 x.f0.f0, .string x.f0.f1, .string x.f0.f2, .int .i64 x.f0.f3, .int .i64 x.f0.f4.f0, .string x.f0.f4.f1, .int .i64 x.f0.f5, .int .i64 x.f0.f6.f0, .string x.f0.f6.f1, .int .i64 x.f0.f7.f0, .int .i64 x.f0.f7.f1, .int .i64 x.f0.f7.f2.f0, .string x.f0.f7.f2.f1, .string x.f0.f7.f3, .slice A14 x.f0.f8.length c14, .slice A15 x.f0.f9.length c15, .bool x.f1, .bool x.f2, .string x.f3] ∧ x.f0.f8.length ≤ c14 ∧ Kd.F Kd.string W ok A14 x.f0.f8.length x.f0.f8 ∧ x.f0.f9.length ≤ c15 ∧ Kd.F k38 W ok A15 x.f0.f9.length x.f0.f9 := by
  obtain ⟨A14, c14, A15, c15, rfl, l14, _, l15, _⟩ := k161_open (Kd.FK_now h)
  exact ⟨A14, c14, A15, c15, rfl, l14, (fun W' hW => by obtain ⟨A14_, c14_, A15_, c15_, he, l14_, g14_, l15_, g15_⟩ := k161_open (h W' hW); injection (Option.some.inj (show some (Value.slice A14 x.f0.f8.length c14) = some (Value.slice A14_ x.f0.f8.length c14_) from congrArg (fun l => l[14]?) he)) with ha_ _ _; rw [ha_]; exact g14_), l15, (fun W' hW => by obtain ⟨A14_, c14_, A15_, c15_, he, l14_, g14_, l15_, g15_⟩ := k161_open (h W' hW); injection (Option.some.inj (show some (Value.slice A15 x.f0.f9.length c15) = some (Value.slice A15_ x.f0.f9.length c15_) from congrArg (fun l => l[15]?) he)) with ha_ _ _; rw [ha_]; exact g15_)⟩
theorem k161_mkF (W : World) (ok : Nat → Prop) (x : S161) {A14 : Option Addr} {c14 : Nat} (l14 : x.f0.f8.length ≤ c14) (g14 : Kd.F Kd.string W ok A14 x.f0.f8.length x.f0.f8) {A15 : Option Addr} {c15 : Nat} (l15 : x.f0.f9.length ≤ c15) (g15 : Kd.F k38 W ok A15 x.f0.f9.length x.f0.f9) : Kd.FK k161 W ok x [.int .i64 x.f0.f0, .string x.f0.f1, .string x.f0.f2, .int .i64 x.f0.f3, .int .i64 x.f0.f4.f0, .string x.f0.f4.f1, .int .i64 x.f0.f5, .int .i64 x.f0.f6.f0, .string x.f0.f6.f1, .int .i64 x.f0.f7.f0, .int .i64 x.f0.f7.f1, .int .i64 x.f0.f7.f2.f0, .string x.f0.f7.f2.f1, .string x.f0.f7.f3, .slice A14 x.f0.f8.length c14, .slice A15 x.f0.f9.length c15, .bool x.f1, .bool x.f2, .string x.f3] := fun W2 hW => k161_mk W2 x l14 (g14 W2 hW) l15 (g15 W2 hW)
def rd_T161 (xs : List S161) (i : Int) : S161 := xs.getD i.toNat z161
theorem at_T161 {w : World} {A : Option Addr} {n : Nat} {xs : List S161} (h : Kd.C k161 w A n xs) (i : Int) (h0 : 0 ≤ i) (h1 : i < n) : ∃ ad A14 c14 A15 c15, A = some ad ∧ w.cell? (ad.add (i.toNat * 19)) = some (.int .i64 (rd_T161 xs i).f0.f0) ∧ w.cell? ⟨(ad.add (i.toNat * 19)).block, (ad.add (i.toNat * 19)).off + 1, none⟩ = some (.string (rd_T161 xs i).f0.f1) ∧ w.cell? ⟨(ad.add (i.toNat * 19)).block, (ad.add (i.toNat * 19)).off + 2, none⟩ = some (.string (rd_T161 xs i).f0.f2) ∧ w.cell? ⟨(ad.add (i.toNat * 19)).block, (ad.add (i.toNat * 19)).off + 3, none⟩ = some (.int .i64 (rd_T161 xs i).f0.f3) ∧ w.cell? ⟨(ad.add (i.toNat * 19)).block, (ad.add (i.toNat * 19)).off + 4, none⟩ = some (.int .i64 (rd_T161 xs i).f0.f4.f0) ∧ w.cell? ⟨(ad.add (i.toNat * 19)).block, (ad.add (i.toNat * 19)).off + 5, none⟩ = some (.string (rd_T161 xs i).f0.f4.f1) ∧ w.cell? ⟨(ad.add (i.toNat * 19)).block, (ad.add (i.toNat * 19)).off + 6, none⟩ = some (.int .i64 (rd_T161 xs i).f0.f5) ∧ w.cell? ⟨(ad.add (i.toNat * 19)).block, (ad.add (i.toNat * 19)).off + 7, none⟩ = some (.int .i64 (rd_T161 xs i).f0.f6.f0) ∧ w.cell? ⟨(ad.add (i.toNat * 19)).block, (ad.add (i.toNat * 19)).off + 8, none⟩ = some (.string (rd_T161 xs i).f0.f6.f1) ∧ w.cell? ⟨(ad.add (i.toNat * 19)).block, (ad.add (i.toNat * 19)).off + 9, none⟩ = some (.int .i64 (rd_T161 xs i).f0.f7.f0) ∧ w.cell? ⟨(ad.add (i.toNat * 19)).block, (ad.add (i.toNat * 19)).off + 10, none⟩ = some (.int .i64 (rd_T161 xs i).f0.f7.f1) ∧ w.cell? ⟨(ad.add (i.toNat * 19)).block, (ad.add (i.toNat * 19)).off + 11, none⟩ = some (.int .i64 (rd_T161 xs i).f0.f7.f2.f0) ∧ w.cell? ⟨(ad.add (i.toNat * 19)).block, (ad.add (i.toNat * 19)).off + 12, none⟩ = some (.string (rd_T161 xs i).f0.f7.f2.f1) ∧ w.cell? ⟨(ad.add (i.toNat * 19)).block, (ad.add (i.toNat * 19)).off + 13, none⟩ = some (.string (rd_T161 xs i).f0.f7.f3) ∧ w.cell? ⟨(ad.add (i.toNat * 19)).block, (ad.add (i.toNat * 19)).off + 14, none⟩ = some (.slice A14 (rd_T161 xs i).f0.f8.length c14) ∧ w.cell? ⟨(ad.add (i.toNat * 19)).block, (ad.add (i.toNat * 19)).off + 15, none⟩ = some (.slice A15 (rd_T161 xs i).f0.f9.length c15) ∧ w.cell? ⟨(ad.add (i.toNat * 19)).block, (ad.add (i.toNat * 19)).off + 16, none⟩ = some (.bool (rd_T161 xs i).f1) ∧ w.cell? ⟨(ad.add (i.toNat * 19)).block, (ad.add (i.toNat * 19)).off + 17, none⟩ = some (.bool (rd_T161 xs i).f2) ∧ w.cell? ⟨(ad.add (i.toNat * 19)).block, (ad.add (i.toNat * 19)).off + 18, none⟩ = some (.string (rd_T161 xs i).f3) ∧ (rd_T161 xs i).f0.f8.length ≤ c14 ∧ Kd.string.C w A14 (rd_T161 xs i).f0.f8.length (rd_T161 xs i).f0.f8 ∧ (rd_T161 xs i).f0.f9.length ≤ c15 ∧ k38.C w A15 (rd_T161 xs i).f0.f9.length (rd_T161 xs i).f0.f9 := by
  obtain ⟨ad, c, e, _, hK, hc0⟩ := Kd.C_get h z161 i h0 h1
  have hc : ∀ j u, c[j]? = some u → w.cell? (ad.add (i.toNat * 19 + j)) = some u := hc0
  obtain ⟨A14, c14, A15, c15, rfl, l14, g14, l15, g15⟩ := k161_open hK
  exact ⟨ad, A14, c14, A15, c15, e, hc 0 _ rfl, by rw [← add_field _ _ 1 (by omega)]; exact hc 1 _ rfl, by rw [← add_field _ _ 2 (by omega)]; exact hc 2 _ rfl, by rw [← add_field _ _ 3 (by omega)]; exact hc 3 _ rfl, by rw [← add_field _ _ 4 (by omega)]; exact hc 4 _ rfl, by rw [← add_field _ _ 5 (by omega)]; exact hc 5 _ rfl, by rw [← add_field _ _ 6 (by omega)]; exact hc 6 _ rfl, by rw [← add_field _ _ 7 (by omega)]; exact hc 7 _ rfl, by rw [← add_field _ _ 8 (by omega)]; exact hc 8 _ rfl, by rw [← add_field _ _ 9 (by omega)]; exact hc 9 _ rfl, by rw [← add_field _ _ 10 (by omega)]; exact hc 10 _ rfl, by rw [← add_field _ _ 11 (by omega)]; exact hc 11 _ rfl, by rw [← add_field _ _ 12 (by omega)]; exact hc 12 _ rfl, by rw [← add_field _ _ 13 (by omega)]; exact hc 13 _ rfl, by rw [← add_field _ _ 14 (by omega)]; exact hc 14 _ rfl, by rw [← add_field _ _ 15 (by omega)]; exact hc 15 _ rfl, by rw [← add_field _ _ 16 (by omega)]; exact hc 16 _ rfl, by rw [← add_field _ _ 17 (by omega)]; exact hc 17 _ rfl, by rw [← add_field _ _ 18 (by omega)]; exact hc 18 _ rfl, l14, g14, l15, g15⟩

def rd_L11 (xs : List (List S145)) (i : Int) : (List S145) := xs.getD i.toNat ([] : List S145)
theorem at_L11 {w : World} {A : Option Addr} {n : Nat} {xs : List (List S145)} (h : Kd.C (Kd.slice 145 k145) w A n xs) (i : Int) (h0 : 0 ≤ i) (h1 : i < n) : ∃ ad A0 c0, A = some ad ∧ w.cell? (ad.add i.toNat) = some (.slice A0 (rd_L11 xs i).length c0) ∧ (rd_L11 xs i).length ≤ c0 ∧ k145.C w A0 (rd_L11 xs i).length (rd_L11 xs i) := by
  obtain ⟨ad, c, e, _, hK, hc0⟩ := Kd.C_get h ([] : List S145) i h0 h1
  have hc : ∀ j u, c[j]? = some u → w.cell? (ad.add (i.toNat * 1 + j)) = some u := hc0
  obtain ⟨A0, c0, rfl, l0, g0⟩ := hK
  exact ⟨ad, A0, c0, e, by have hq := hc 0 _ rfl; rwa [Nat.mul_one, Nat.add_zero] at hq, l0, g0⟩

def rd_L12 (xs : List (List S161)) (i : Int) : (List S161) := xs.getD i.toNat ([] : List S161)
theorem at_L12 {w : World} {A : Option Addr} {n : Nat} {xs : List (List S161)} (h : Kd.C (Kd.slice 161 k161) w A n xs) (i : Int) (h0 : 0 ≤ i) (h1 : i < n) : ∃ ad A0 c0, A = some ad ∧ w.cell? (ad.add i.toNat) = some (.slice A0 (rd_L12 xs i).length c0) ∧ (rd_L12 xs i).length ≤ c0 ∧ k161.C w A0 (rd_L12 xs i).length (rd_L12 xs i) := by
  obtain ⟨ad, c, e, _, hK, hc0⟩ := Kd.C_get h ([] : List S161) i h0 h1
  have hc : ∀ j u, c[j]? = some u → w.cell? (ad.add (i.toNat * 1 + j)) = some u := hc0
  obtain ⟨A0, c0, rfl, l0, g0⟩ := hK
  exact ⟨ad, A0, c0, e, by have hq := hc 0 _ rfl; rwa [Nat.mul_one, Nat.add_zero] at hq, l0, g0⟩

end Go.Proofs.YtgljohmkejbclaaGreatDoor.PStreamableGrows
