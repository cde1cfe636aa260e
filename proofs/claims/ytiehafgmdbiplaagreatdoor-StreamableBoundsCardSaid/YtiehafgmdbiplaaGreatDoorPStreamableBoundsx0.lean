-- PRINTED BY print.sh 35421559b90ae4d0a3588c463048766b98c2df88dd9212a6774a882060cdf62d: not written by this session
import Derived.Test.YtiehafgmdbiplaaGreatDoorProg
import Derived.Below
import Derived.Deep.Draws
import Derived.Deep.AppendLies
import Derived.Maps.AppendAt
import Derived.OwnWalk
import Derived.Laws.BytesArg
import Derived.Laws.MakeOwn
import Derived.Laws.OwnMore
import Derived.Deep.OwnRows
import Derived.Tactics
import Derived.Lib.ConvBytes
import Derived.Laws.Slices
import Derived.WalkKit
import Derived.KernelRfl
import Derived.RowKit3
import Derived.Deep.LoopGhost
import Derived.Deep.QuietTactic
import Derived.BigQuiet
import Derived.WideLaws
import Derived.Deep.DeepCutAuto
import Derived.Deep.CutBlock
import Derived.Deep.RegionHeld3
import Derived.Laws.Rows
import Derived.Lib.AppendStr
import Derived.ArgAppend
import Derived.Laws.IdiomCopy
import Derived.OrdersHeld
import Derived.Laws.BitsLemmas
import Derived.RowKit
import Derived.Test.YtiehafgmdbiplaaGreatDoorWWords
import Derived.Test.YtiehafgmdbiplaaGreatDoorWLast
import Derived.Test.YtiehafgmdbiplaaGreatDoorWTab
import Derived.Test.YtiehafgmdbiplaaGreatDoorWFour
import Derived.Test.YtiehafgmdbiplaaGreatDoorWQPut
import Derived.Test.YtiehafgmdbiplaaGreatDoorWApart
import Derived.Test.YtiehafgmdbiplaaGreatDoorWArr
import Derived.Test.YtiehafgmdbiplaaGreatDoorWZeros
import Derived.Test.YtiehafgmdbiplaaGreatDoorWFoot
import Derived.Test.YtiehafgmdbiplaaGreatDoorWKept
import Derived.Test.YtiehafgmdbiplaaGreatDoorWShare
import Derived.Test.YtiehafgmdbiplaaGreatDoorWN
import Derived.Test.YtiehafgmdbiplaaGreatDoorWFootNe
import Derived.Test.YtiehafgmdbiplaaGreatDoorWAt
import Derived.Test.YtiehafgmdbiplaaGreatDoorWEqStruct
import Derived.Test.YtiehafgmdbiplaaGreatDoorWRepsOne
import Derived.Test.YtiehafgmdbiplaaGreatDoorWInv
import Derived.Test.YtiehafgmdbiplaaGreatDoorWInvWords
import Derived.Test.YtiehafgmdbiplaaGreatDoorWGuard
import Derived.Test.YtiehafgmdbiplaaGreatDoorWNEv
import Derived.Test.YtiehafgmdbiplaaGreatDoorWMore
namespace Go.Proofs.YtiehafgmdbiplaaGreatDoor.PStreamableBounds
open Go.RowKit Go.Proofs.YtiehafgmdbiplaaGreatDoorW.PrintWords Go.Proofs.YtiehafgmdbiplaaGreatDoorW.PrintLast Go.Proofs.YtiehafgmdbiplaaGreatDoorW.PrintMore
attribute [local go_sem] max2_int min2_int max_two min_two max_three min_three max_four min_four   -- for this text's walks alone
set_option linter.unusedVariables false
set_option linter.unusedSimpArgs false



def errW : Option Int → Value
  | none => .nilIface
  | some c => .iface 0 (.int .i64 c)
theorem errW_none : errW none = .nilIface := rfl
theorem errW_some (c : Int) : errW (some c) = .iface 0 (.int .i64 c) := rfl

theorem info39 : (Tryz.prog.info? 39).map (fun i => (i.zero, i.size, i.bytes)) = some (some (.agg #[(.int .i64 0), (.string ⟨#[]⟩), (.string ⟨#[]⟩), (.int .i64 0), (.int .i64 0), (.string ⟨#[]⟩), (.int .i64 0), (.int .i64 0), (.string ⟨#[]⟩), (.int .i64 0), (.int .i64 0), (.int .i64 0), (.string ⟨#[]⟩), (.string ⟨#[]⟩), (.slice none 0 0), (.slice none 0 0)]), 16, 208) := by kernel_rfl
theorem info67 : (Tryz.prog.info? 67).map (fun i => (i.zero, i.size, i.bytes)) = some (some (.agg #[(.string ⟨#[]⟩), (.int .i64 0)]), 2, 24) := by kernel_rfl
-- the values' own types
/-! #### struct type 65 -/
structure S65 where
  f0 : ByteArray
  f1 : Int
def z65 : S65 := ⟨(⟨#[]⟩ : ByteArray), (0 : Int)⟩
def k65 : Kd S65 := Kd.iso (Kd.pair Kd.string (Kd.int .i64)) (fun x : S65 => (x.f0, x.f1))
theorem k65_open {w : World} {x : S65} {cs : List Value} (h : k65.K w x cs) : cs = [.string x.f0, .int .i64 x.f1] := by
  obtain ⟨_, _, rfl, rfl, rfl⟩ := h
  exact rfl
theorem k65_openM {w : World} {base : Nat} {ok : Nat → Prop} {x : S65} {cs : List Value} (h : k65.M w base ok x cs) : cs = [.string x.f0, .int .i64 x.f1] := by
  obtain ⟨_, _, rfl, rfl, rfl⟩ := h
  exact rfl
theorem k65_mk (w : World) (x : S65)  : k65.K w x [.string x.f0, .int .i64 x.f1] := ⟨[.string x.f0], [.int .i64 x.f1], rfl, rfl, rfl⟩
theorem k65_mkM (w : World) (base : Nat) (ok : Nat → Prop) (x : S65)  : k65.M w base ok x [.string x.f0, .int .i64 x.f1] := ⟨[.string x.f0], [.int .i64 x.f1], rfl, rfl, rfl⟩
theorem k65_mkF (W : World) (ok : Nat → Prop) (x : S65) : Kd.FK k65 W ok x [.string x.f0, .int .i64 x.f1] := fun W2 _ => k65_mk W2 x
def rd_T65 (xs : List S65) (i : Int) : S65 := xs.getD i.toNat z65
theorem at_T65 {w : World} {A : Option Addr} {n : Nat} {xs : List S65} (h : Kd.C k65 w A n xs) (i : Int) (h0 : 0 ≤ i) (h1 : i < n) : ∃ ad , A = some ad ∧ w.cell? (ad.add (i.toNat * 2)) = some (.string (rd_T65 xs i).f0) ∧ w.cell? ⟨(ad.add (i.toNat * 2)).block, (ad.add (i.toNat * 2)).off + 1, none⟩ = some (.int .i64 (rd_T65 xs i).f1) := by
  obtain ⟨ad, c, e, _, hK, hc0⟩ := Kd.C_get h z65 i h0 h1
  have hc : ∀ j u, c[j]? = some u → w.cell? (ad.add (i.toNat * 2 + j)) = some u := hc0
  obtain rfl := k65_open hK
  exact ⟨ad, e, hc 0 _ rfl, by rw [← add_field _ _ 1 (by omega)]; exact hc 1 _ rfl⟩

/-! #### struct type 31 -/
structure S31 where
  f0 : Int
  f1 : ByteArray
def z31 : S31 := ⟨(0 : Int), (⟨#[]⟩ : ByteArray)⟩
def k31 : Kd S31 := Kd.iso (Kd.pair (Kd.int .i64) Kd.string) (fun x : S31 => (x.f0, x.f1))
theorem k31_open {w : World} {x : S31} {cs : List Value} (h : k31.K w x cs) : cs = [.int .i64 x.f0, .string x.f1] := by
  obtain ⟨_, _, rfl, rfl, rfl⟩ := h
  exact rfl
theorem k31_openM {w : World} {base : Nat} {ok : Nat → Prop} {x : S31} {cs : List Value} (h : k31.M w base ok x cs) : cs = [.int .i64 x.f0, .string x.f1] := by
  obtain ⟨_, _, rfl, rfl, rfl⟩ := h
  exact rfl
theorem k31_mk (w : World) (x : S31)  : k31.K w x [.int .i64 x.f0, .string x.f1] := ⟨[.int .i64 x.f0], [.string x.f1], rfl, rfl, rfl⟩
theorem k31_mkM (w : World) (base : Nat) (ok : Nat → Prop) (x : S31)  : k31.M w base ok x [.int .i64 x.f0, .string x.f1] := ⟨[.int .i64 x.f0], [.string x.f1], rfl, rfl, rfl⟩
theorem k31_mkF (W : World) (ok : Nat → Prop) (x : S31) : Kd.FK k31 W ok x [.int .i64 x.f0, .string x.f1] := fun W2 _ => k31_mk W2 x
def rd_T31 (xs : List S31) (i : Int) : S31 := xs.getD i.toNat z31
theorem at_T31 {w : World} {A : Option Addr} {n : Nat} {xs : List S31} (h : Kd.C k31 w A n xs) (i : Int) (h0 : 0 ≤ i) (h1 : i < n) : ∃ ad , A = some ad ∧ w.cell? (ad.add (i.toNat * 2)) = some (.int .i64 (rd_T31 xs i).f0) ∧ w.cell? ⟨(ad.add (i.toNat * 2)).block, (ad.add (i.toNat * 2)).off + 1, none⟩ = some (.string (rd_T31 xs i).f1) := by
  obtain ⟨ad, c, e, _, hK, hc0⟩ := Kd.C_get h z31 i h0 h1
  have hc : ∀ j u, c[j]? = some u → w.cell? (ad.add (i.toNat * 2 + j)) = some u := hc0
  obtain rfl := k31_open hK
  exact ⟨ad, e, hc 0 _ rfl, by rw [← add_field _ _ 1 (by omega)]; exact hc 1 _ rfl⟩

/-! #### struct type 33 -/
structure S33 where
  f0 : Int
  f1 : ByteArray
def z33 : S33 := ⟨(0 : Int), (⟨#[]⟩ : ByteArray)⟩
def k33 : Kd S33 := Kd.iso (Kd.pair (Kd.int .i64) Kd.string) (fun x : S33 => (x.f0, x.f1))
theorem k33_open {w : World} {x : S33} {cs : List Value} (h : k33.K w x cs) : cs = [.int .i64 x.f0, .string x.f1] := by
  obtain ⟨_, _, rfl, rfl, rfl⟩ := h
  exact rfl
theorem k33_openM {w : World} {base : Nat} {ok : Nat → Prop} {x : S33} {cs : List Value} (h : k33.M w base ok x cs) : cs = [.int .i64 x.f0, .string x.f1] := by
  obtain ⟨_, _, rfl, rfl, rfl⟩ := h
  exact rfl
theorem k33_mk (w : World) (x : S33)  : k33.K w x [.int .i64 x.f0, .string x.f1] := ⟨[.int .i64 x.f0], [.string x.f1], rfl, rfl, rfl⟩
theorem k33_mkM (w : World) (base : Nat) (ok : Nat → Prop) (x : S33)  : k33.M w base ok x [.int .i64 x.f0, .string x.f1] := ⟨[.int .i64 x.f0], [.string x.f1], rfl, rfl, rfl⟩
theorem k33_mkF (W : World) (ok : Nat → Prop) (x : S33) : Kd.FK k33 W ok x [.int .i64 x.f0, .string x.f1] := fun W2 _ => k33_mk W2 x
def rd_T33 (xs : List S33) (i : Int) : S33 := xs.getD i.toNat z33
theorem at_T33 {w : World} {A : Option Addr} {n : Nat} {xs : List S33} (h : Kd.C k33 w A n xs) (i : Int) (h0 : 0 ≤ i) (h1 : i < n) : ∃ ad , A = some ad ∧ w.cell? (ad.add (i.toNat * 2)) = some (.int .i64 (rd_T33 xs i).f0) ∧ w.cell? ⟨(ad.add (i.toNat * 2)).block, (ad.add (i.toNat * 2)).off + 1, none⟩ = some (.string (rd_T33 xs i).f1) := by
  obtain ⟨ad, c, e, _, hK, hc0⟩ := Kd.C_get h z33 i h0 h1
  have hc : ∀ j u, c[j]? = some u → w.cell? (ad.add (i.toNat * 2 + j)) = some u := hc0
  obtain rfl := k33_open hK
  exact ⟨ad, e, hc 0 _ rfl, by rw [← add_field _ _ 1 (by omega)]; exact hc 1 _ rfl⟩

/-! #### struct type 35 -/
structure S35 where
  f0 : Int
  f1 : Int
  f2 : S33
  f3 : ByteArray
def z35 : S35 := ⟨(0 : Int), (0 : Int), z33, (⟨#[]⟩ : ByteArray)⟩
def k35 : Kd S35 := Kd.iso (Kd.pair (Kd.int .i64) (Kd.pair (Kd.int .i64) (Kd.pair k33 Kd.string))) (fun x : S35 => (x.f0, x.f1, x.f2, x.f3))
theorem k35_open {w : World} {x : S35} {cs : List Value} (h : k35.K w x cs) : cs = [.int .i64 x.f0, .int .i64 x.f1, .int .i64 x.f2.f0, .string x.f2.f1, .string x.f3] := by
  obtain ⟨_, _, rfl, rfl, ⟨_, _, rfl, rfl, ⟨_, _, rfl, s2, rfl⟩⟩⟩ := h
  obtain rfl := k33_open s2
  exact rfl
theorem k35_openM {w : World} {base : Nat} {ok : Nat → Prop} {x : S35} {cs : List Value} (h : k35.M w base ok x cs) : cs = [.int .i64 x.f0, .int .i64 x.f1, .int .i64 x.f2.f0, .string x.f2.f1, .string x.f3] := by
  obtain ⟨_, _, rfl, rfl, ⟨_, _, rfl, rfl, ⟨_, _, rfl, s2, rfl⟩⟩⟩ := h
  obtain rfl := k33_openM s2
  exact rfl
theorem k35_mk (w : World) (x : S35)  : k35.K w x [.int .i64 x.f0, .int .i64 x.f1, .int .i64 x.f2.f0, .string x.f2.f1, .string x.f3] := ⟨[.int .i64 x.f0], [.int .i64 x.f1, .int .i64 x.f2.f0, .string x.f2.f1, .string x.f3], rfl, rfl, ⟨[.int .i64 x.f1], [.int .i64 x.f2.f0, .string x.f2.f1, .string x.f3], rfl, rfl, ⟨[.int .i64 x.f2.f0, .string x.f2.f1], [.string x.f3], rfl, (k33_mk w x.f2 ), rfl⟩⟩⟩
theorem k35_mkM (w : World) (base : Nat) (ok : Nat → Prop) (x : S35)  : k35.M w base ok x [.int .i64 x.f0, .int .i64 x.f1, .int .i64 x.f2.f0, .string x.f2.f1, .string x.f3] := ⟨[.int .i64 x.f0], [.int .i64 x.f1, .int .i64 x.f2.f0, .string x.f2.f1, .string x.f3], rfl, rfl, ⟨[.int .i64 x.f1], [.int .i64 x.f2.f0, .string x.f2.f1, .string x.f3], rfl, rfl, ⟨[.int .i64 x.f2.f0, .string x.f2.f1], [.string x.f3], rfl, (k33_mkM w base ok x.f2 ), rfl⟩⟩⟩
theorem k35_mkF (W : World) (ok : Nat → Prop) (x : S35) : Kd.FK k35 W ok x [.int .i64 x.f0, .int .i64 x.f1, .int .i64 x.f2.f0, .string x.f2.f1, .string x.f3] := fun W2 _ => k35_mk W2 x
def rd_T35 (xs : List S35) (i : Int) : S35 := xs.getD i.toNat z35
theorem at_T35 {w : World} {A : Option Addr} {n : Nat} {xs : List S35} (h : Kd.C k35 w A n xs) (i : Int) (h0 : 0 ≤ i) (h1 : i < n) : ∃ ad , A = some ad ∧ w.cell? (ad.add (i.toNat * 5)) = some (.int .i64 (rd_T35 xs i).f0) ∧ w.cell? ⟨(ad.add (i.toNat * 5)).block, (ad.add (i.toNat * 5)).off + 1, none⟩ = some (.int .i64 (rd_T35 xs i).f1) ∧ w.cell? ⟨(ad.add (i.toNat * 5)).block, (ad.add (i.toNat * 5)).off + 2, none⟩ = some (.int .i64 (rd_T35 xs i).f2.f0) ∧ w.cell? ⟨(ad.add (i.toNat * 5)).block, (ad.add (i.toNat * 5)).off + 3, none⟩ = some (.string (rd_T35 xs i).f2.f1) ∧ w.cell? ⟨(ad.add (i.toNat * 5)).block, (ad.add (i.toNat * 5)).off + 4, none⟩ = some (.string (rd_T35 xs i).f3) := by
  obtain ⟨ad, c, e, _, hK, hc0⟩ := Kd.C_get h z35 i h0 h1
  have hc : ∀ j u, c[j]? = some u → w.cell? (ad.add (i.toNat * 5 + j)) = some u := hc0
  obtain rfl := k35_open hK
  exact ⟨ad, e, hc 0 _ rfl, by rw [← add_field _ _ 1 (by omega)]; exact hc 1 _ rfl, by rw [← add_field _ _ 2 (by omega)]; exact hc 2 _ rfl, by rw [← add_field _ _ 3 (by omega)]; exact hc 3 _ rfl, by rw [← add_field _ _ 4 (by omega)]; exact hc 4 _ rfl⟩

def rd_L7 (xs : List (List ByteArray)) (i : Int) : (List ByteArray) := xs.getD i.toNat ([] : List ByteArray)
theorem at_L7 {w : World} {A : Option Addr} {n : Nat} {xs : List (List ByteArray)} (h : Kd.C (Kd.slice 9 Kd.string) w A n xs) (i : Int) (h0 : 0 ≤ i) (h1 : i < n) : ∃ ad A0 c0, A = some ad ∧ w.cell? (ad.add i.toNat) = some (.slice A0 (rd_L7 xs i).length c0) ∧ (rd_L7 xs i).length ≤ c0 ∧ Kd.string.C w A0 (rd_L7 xs i).length (rd_L7 xs i) := by
  obtain ⟨ad, c, e, _, hK, hc0⟩ := Kd.C_get h ([] : List ByteArray) i h0 h1
  have hc : ∀ j u, c[j]? = some u → w.cell? (ad.add (i.toNat * 1 + j)) = some u := hc0
  obtain ⟨A0, c0, rfl, l0, g0⟩ := hK
  exact ⟨ad, A0, c0, e, by have hq := hc 0 _ rfl; rwa [Nat.mul_one, Nat.add_zero] at hq, l0, g0⟩

/-! #### struct type 39, nested in itself -/
structure S39 where
  f0 : Int
  f1 : ByteArray
  f2 : ByteArray
  f3 : Int
  f4 : S31
  f5 : Int
  f6 : S33
  f7 : S35
  f8 : (List ByteArray)
  f9 : (List S39)
def z39 : S39 := ⟨(0 : Int), (⟨#[]⟩ : ByteArray), (⟨#[]⟩ : ByteArray), (0 : Int), z31, (0 : Int), z33, z35, ([] : List ByteArray), ([] : List S39)⟩
def F39 (d : Kd S39) : Kd S39 := Kd.iso (Kd.pair (Kd.int .i64) (Kd.pair Kd.string (Kd.pair Kd.string (Kd.pair (Kd.int .i64) (Kd.pair k31 (Kd.pair (Kd.int .i64) (Kd.pair k33 (Kd.pair k35 (Kd.pair (Kd.slice 9 Kd.string) (Kd.slice 39 d)))))))))) (fun x : S39 => (x.f0, x.f1, x.f2, x.f3, x.f4, x.f5, x.f6, x.f7, x.f8, x.f9))
theorem mono39 : Kd.Mono F39 := Kd.mono_iso _ (Kd.mono_pair (Kd.mono_const _) (Kd.mono_pair (Kd.mono_const _) (Kd.mono_pair (Kd.mono_const _) (Kd.mono_pair (Kd.mono_const _) (Kd.mono_pair (Kd.mono_const _) (Kd.mono_pair (Kd.mono_const _) (Kd.mono_pair (Kd.mono_const _) (Kd.mono_pair (Kd.mono_const _) (Kd.mono_pair (Kd.mono_const _) (Kd.mono_slice 39 Kd.mono_id))))))))))
theorem sub39 : Kd.Sub F39 [9, 39] := Kd.sub_iso _ (Kd.sub_pair (Kd.sub_const _ (by decide)) (Kd.sub_pair (Kd.sub_const _ (by decide)) (Kd.sub_pair (Kd.sub_const _ (by decide)) (Kd.sub_pair (Kd.sub_const _ (by decide)) (Kd.sub_pair (Kd.sub_const _ (by decide)) (Kd.sub_pair (Kd.sub_const _ (by decide)) (Kd.sub_pair (Kd.sub_const _ (by decide)) (Kd.sub_pair (Kd.sub_const _ (by decide)) (Kd.sub_pair (Kd.sub_const _ (by decide)) (Kd.sub_slice 39 (by decide) Kd.sub_id))))))))))
theorem sz39 : ∀ n, (Kd.upto F39 16 [9, 39] n).sz = 16 := Kd.upto_sz (fun _ => rfl)
def k39 : Kd S39 := Kd.fix F39 16 [9, 39] sz39 (Kd.upto_E sub39)
theorem k39_open {w : World} {x : S39} {cs : List Value} (h : k39.K w x cs) : ∃ A14 c14 A15 c15, cs = [.int .i64 x.f0, .string x.f1, .string x.f2, .int .i64 x.f3, .int .i64 x.f4.f0, .string x.f4.f1, .int .i64 x.f5, .int .i64 x.f6.f0, .string x.f6.f1, .int .i64 x.f7.f0, .int .i64 x.f7.f1, .int .i64 x.f7.f2.f0, .string x.f7.f2.f1, .string x.f7.f3, .slice A14 x.f8.length c14, .slice A15 x.f9.length c15] ∧ x.f8.length ≤ c14 ∧ Kd.string.C w A14 x.f8.length x.f8 ∧ x.f9.length ≤ c15 ∧ k39.C w A15 x.f9.length x.f9 := by
  obtain ⟨n, h⟩ := h
  cases n with
  | zero => exact h.elim
  | succ n =>
    obtain ⟨_, _, rfl, rfl, ⟨_, _, rfl, rfl, ⟨_, _, rfl, rfl, ⟨_, _, rfl, rfl, ⟨_, _, rfl, s4, ⟨_, _, rfl, rfl, ⟨_, _, rfl, s7, ⟨_, _, rfl, s9, ⟨_, _, rfl, ⟨A14, c14, rfl, l14, g14⟩, ⟨A15, c15, rfl, l15, g15⟩⟩⟩⟩⟩⟩⟩⟩⟩⟩ := h
    obtain rfl := k31_open s4
    obtain rfl := k33_open s7
    obtain rfl := k35_open s9
    exact ⟨A14, c14, A15, c15, rfl, l14, g14, l15, Kd.fix_C g15⟩
theorem k39_openM {w : World} {base : Nat} {ok : Nat → Prop} {x : S39} {cs : List Value} (h : k39.M w base ok x cs) : ∃ v14 v15, cs = [.int .i64 x.f0, .string x.f1, .string x.f2, .int .i64 x.f3, .int .i64 x.f4.f0, .string x.f4.f1, .int .i64 x.f5, .int .i64 x.f6.f0, .string x.f6.f1, .int .i64 x.f7.f0, .int .i64 x.f7.f1, .int .i64 x.f7.f2.f0, .string x.f7.f2.f1, .string x.f7.f3, v14, v15] ∧ Kd.string.R 9 w base ok v14 x.f8 ∧ k39.R 39 w base ok v15 x.f9 := by
  obtain ⟨n, h⟩ := h
  cases n with
  | zero => exact h.elim
  | succ n =>
    obtain ⟨_, _, rfl, rfl, ⟨_, _, rfl, rfl, ⟨_, _, rfl, rfl, ⟨_, _, rfl, rfl, ⟨_, _, rfl, s4, ⟨_, _, rfl, rfl, ⟨_, _, rfl, s7, ⟨_, _, rfl, s9, ⟨_, _, rfl, ⟨v14, rfl, g14⟩, ⟨v15, rfl, g15⟩⟩⟩⟩⟩⟩⟩⟩⟩⟩ := h
    obtain rfl := k31_openM s4
    obtain rfl := k33_openM s7
    obtain rfl := k35_openM s9
    exact ⟨v14, v15, rfl, g14, Kd.fix_R g15⟩
theorem k39_mk (w : World) (x : S39) {A14 : Option Addr} {c14 : Nat} (l14 : x.f8.length ≤ c14) (g14 : Kd.string.C w A14 x.f8.length x.f8) {A15 : Option Addr} {c15 : Nat} (l15 : x.f9.length ≤ c15) (g15 : k39.C w A15 x.f9.length x.f9) : k39.K w x [.int .i64 x.f0, .string x.f1, .string x.f2, .int .i64 x.f3, .int .i64 x.f4.f0, .string x.f4.f1, .int .i64 x.f5, .int .i64 x.f6.f0, .string x.f6.f1, .int .i64 x.f7.f0, .int .i64 x.f7.f1, .int .i64 x.f7.f2.f0, .string x.f7.f2.f1, .string x.f7.f3, .slice A14 x.f8.length c14, .slice A15 x.f9.length c15] := by
  obtain ⟨n15, q15⟩ := Kd.fix_C_back mono39 g15
  have r15 := Kd.upto_C_le mono39 sz39 (show n15 ≤ n15 by omega) q15
  exact ⟨n15 + 1, ⟨[.int .i64 x.f0], [.string x.f1, .string x.f2, .int .i64 x.f3, .int .i64 x.f4.f0, .string x.f4.f1, .int .i64 x.f5, .int .i64 x.f6.f0, .string x.f6.f1, .int .i64 x.f7.f0, .int .i64 x.f7.f1, .int .i64 x.f7.f2.f0, .string x.f7.f2.f1, .string x.f7.f3, .slice A14 x.f8.length c14, .slice A15 x.f9.length c15], rfl, rfl, ⟨[.string x.f1], [.string x.f2, .int .i64 x.f3, .int .i64 x.f4.f0, .string x.f4.f1, .int .i64 x.f5, .int .i64 x.f6.f0, .string x.f6.f1, .int .i64 x.f7.f0, .int .i64 x.f7.f1, .int .i64 x.f7.f2.f0, .string x.f7.f2.f1, .string x.f7.f3, .slice A14 x.f8.length c14, .slice A15 x.f9.length c15], rfl, rfl, ⟨[.string x.f2], [.int .i64 x.f3, .int .i64 x.f4.f0, .string x.f4.f1, .int .i64 x.f5, .int .i64 x.f6.f0, .string x.f6.f1, .int .i64 x.f7.f0, .int .i64 x.f7.f1, .int .i64 x.f7.f2.f0, .string x.f7.f2.f1, .string x.f7.f3, .slice A14 x.f8.length c14, .slice A15 x.f9.length c15], rfl, rfl, ⟨[.int .i64 x.f3], [.int .i64 x.f4.f0, .string x.f4.f1, .int .i64 x.f5, .int .i64 x.f6.f0, .string x.f6.f1, .int .i64 x.f7.f0, .int .i64 x.f7.f1, .int .i64 x.f7.f2.f0, .string x.f7.f2.f1, .string x.f7.f3, .slice A14 x.f8.length c14, .slice A15 x.f9.length c15], rfl, rfl, ⟨[.int .i64 x.f4.f0, .string x.f4.f1], [.int .i64 x.f5, .int .i64 x.f6.f0, .string x.f6.f1, .int .i64 x.f7.f0, .int .i64 x.f7.f1, .int .i64 x.f7.f2.f0, .string x.f7.f2.f1, .string x.f7.f3, .slice A14 x.f8.length c14, .slice A15 x.f9.length c15], rfl, (k31_mk w x.f4 ), ⟨[.int .i64 x.f5], [.int .i64 x.f6.f0, .string x.f6.f1, .int .i64 x.f7.f0, .int .i64 x.f7.f1, .int .i64 x.f7.f2.f0, .string x.f7.f2.f1, .string x.f7.f3, .slice A14 x.f8.length c14, .slice A15 x.f9.length c15], rfl, rfl, ⟨[.int .i64 x.f6.f0, .string x.f6.f1], [.int .i64 x.f7.f0, .int .i64 x.f7.f1, .int .i64 x.f7.f2.f0, .string x.f7.f2.f1, .string x.f7.f3, .slice A14 x.f8.length c14, .slice A15 x.f9.length c15], rfl, (k33_mk w x.f6 ), ⟨[.int .i64 x.f7.f0, .int .i64 x.f7.f1, .int .i64 x.f7.f2.f0, .string x.f7.f2.f1, .string x.f7.f3], [.slice A14 x.f8.length c14, .slice A15 x.f9.length c15], rfl, (k35_mk w x.f7 ), ⟨[.slice A14 x.f8.length c14], [.slice A15 x.f9.length c15], rfl, ⟨A14, c14, rfl, l14, g14⟩, ⟨A15, c15, rfl, l15, r15⟩⟩⟩⟩⟩⟩⟩⟩⟩⟩⟩
theorem k39_mkM (w : World) (base : Nat) (ok : Nat → Prop) (x : S39) {v14 : Value} (g14 : Kd.string.R 9 w base ok v14 x.f8) {v15 : Value} (g15 : k39.R 39 w base ok v15 x.f9) : k39.M w base ok x [.int .i64 x.f0, .string x.f1, .string x.f2, .int .i64 x.f3, .int .i64 x.f4.f0, .string x.f4.f1, .int .i64 x.f5, .int .i64 x.f6.f0, .string x.f6.f1, .int .i64 x.f7.f0, .int .i64 x.f7.f1, .int .i64 x.f7.f2.f0, .string x.f7.f2.f1, .string x.f7.f3, v14, v15] := by
  obtain ⟨n15, q15⟩ := Kd.fix_R_back mono39 g15
  have r15 := Kd.upto_R_le mono39 sz39 (show n15 ≤ n15 by omega) q15
  exact ⟨n15 + 1, ⟨[.int .i64 x.f0], [.string x.f1, .string x.f2, .int .i64 x.f3, .int .i64 x.f4.f0, .string x.f4.f1, .int .i64 x.f5, .int .i64 x.f6.f0, .string x.f6.f1, .int .i64 x.f7.f0, .int .i64 x.f7.f1, .int .i64 x.f7.f2.f0, .string x.f7.f2.f1, .string x.f7.f3, v14, v15], rfl, rfl, ⟨[.string x.f1], [.string x.f2, .int .i64 x.f3, .int .i64 x.f4.f0, .string x.f4.f1, .int .i64 x.f5, .int .i64 x.f6.f0, .string x.f6.f1, .int .i64 x.f7.f0, .int .i64 x.f7.f1, .int .i64 x.f7.f2.f0, .string x.f7.f2.f1, .string x.f7.f3, v14, v15], rfl, rfl, ⟨[.string x.f2], [.int .i64 x.f3, .int .i64 x.f4.f0, .string x.f4.f1, .int .i64 x.f5, .int .i64 x.f6.f0, .string x.f6.f1, .int .i64 x.f7.f0, .int .i64 x.f7.f1, .int .i64 x.f7.f2.f0, .string x.f7.f2.f1, .string x.f7.f3, v14, v15], rfl, rfl, ⟨[.int .i64 x.f3], [.int .i64 x.f4.f0, .string x.f4.f1, .int .i64 x.f5, .int .i64 x.f6.f0, .string x.f6.f1, .int .i64 x.f7.f0, .int .i64 x.f7.f1, .int .i64 x.f7.f2.f0, .string x.f7.f2.f1, .string x.f7.f3, v14, v15], rfl, rfl, ⟨[.int .i64 x.f4.f0, .string x.f4.f1], [.int .i64 x.f5, .int .i64 x.f6.f0, .string x.f6.f1, .int .i64 x.f7.f0, .int .i64 x.f7.f1, .int .i64 x.f7.f2.f0, .string x.f7.f2.f1, .string x.f7.f3, v14, v15], rfl, (k31_mkM w base ok x.f4 ), ⟨[.int .i64 x.f5], [.int .i64 x.f6.f0, .string x.f6.f1, .int .i64 x.f7.f0, .int .i64 x.f7.f1, .int .i64 x.f7.f2.f0, .string x.f7.f2.f1, .string x.f7.f3, v14, v15], rfl, rfl, ⟨[.int .i64 x.f6.f0, .string x.f6.f1], [.int .i64 x.f7.f0, .int .i64 x.f7.f1, .int .i64 x.f7.f2.f0, .string x.f7.f2.f1, .string x.f7.f3, v14, v15], rfl, (k33_mkM w base ok x.f6 ), ⟨[.int .i64 x.f7.f0, .int .i64 x.f7.f1, .int .i64 x.f7.f2.f0, .string x.f7.f2.f1, .string x.f7.f3], [v14, v15], rfl, (k35_mkM w base ok x.f7 ), ⟨[v14], [v15], rfl, ⟨v14, rfl, g14⟩, ⟨v15, rfl, r15⟩⟩⟩⟩⟩⟩⟩⟩⟩⟩⟩
theorem k39_openF {W : World} {ok : Nat → Prop} {x : S39} {cs : List Value} (h : Kd.FK k39 W ok x cs) : ∃ A14 c14 A15 c15, cs = [.int .i64 x.f0, .string x.f1, .string x.f2, .int .i64 x.f3, .int .i64 x.f4.f0, .string x.f4.f1, .int .i64 x.f5, .int .i64 x.f6.f0, .string x.f6.f1, .int .i64 x.f7.f0, .int .i64 x.f7.f1, .int .i64 x.f7.f2.f0, .string x.f7.f2.f1, .string x.f7.f3, .slice A14 x.f8.length c14, .slice A15 x.f9.length c15] ∧ x.f8.length ≤ c14 ∧ Kd.F Kd.string W ok A14 x.f8.length x.f8 ∧ x.f9.length ≤ c15 ∧ Kd.F k39 W ok A15 x.f9.length x.f9 := by
  obtain ⟨A14, c14, A15, c15, rfl, l14, _, l15, _⟩ := k39_open (Kd.FK_now h)
  exact ⟨A14, c14, A15, c15, rfl, l14, (fun W' hW => by obtain ⟨A14_, c14_, A15_, c15_, he, l14_, g14_, l15_, g15_⟩ := k39_open (h W' hW); injection (Option.some.inj (show some (Value.slice A14 x.f8.length c14) = some (Value.slice A14_ x.f8.length c14_) from congrArg (fun l => l[14]?) he)) with ha_ _ _; rw [ha_]; exact g14_), l15, (fun W' hW => by obtain ⟨A14_, c14_, A15_, c15_, he, l14_, g14_, l15_, g15_⟩ := k39_open (h W' hW); injection (Option.some.inj (show some (Value.slice A15 x.f9.length c15) = some (Value.slice A15_ x.f9.length c15_) from congrArg (fun l => l[15]?) he)) with ha_ _ _; rw [ha_]; exact g15_)⟩
theorem k39_mkF (W : World) (ok : Nat → Prop) (x : S39) {A14 : Option Addr} {c14 : Nat} (l14 : x.f8.length ≤ c14) (g14 : Kd.F Kd.string W ok A14 x.f8.length x.f8) {A15 : Option Addr} {c15 : Nat} (l15 : x.f9.length ≤ c15) (g15 : Kd.F k39 W ok A15 x.f9.length x.f9) : Kd.FK k39 W ok x [.int .i64 x.f0, .string x.f1, .string x.f2, .int .i64 x.f3, .int .i64 x.f4.f0, .string x.f4.f1, .int .i64 x.f5, .int .i64 x.f6.f0, .string x.f6.f1, .int .i64 x.f7.f0, .int .i64 x.f7.f1, .int .i64 x.f7.f2.f0, .string x.f7.f2.f1, .string x.f7.f3, .slice A14 x.f8.length c14, .slice A15 x.f9.length c15] := fun W2 hW => k39_mk W2 x l14 (g14 W2 hW) l15 (g15 W2 hW)
def rd_T39 (xs : List S39) (i : Int) : S39 := xs.getD i.toNat z39
theorem at_T39 {w : World} {A : Option Addr} {n : Nat} {xs : List S39} (h : Kd.C k39 w A n xs) (i : Int) (h0 : 0 ≤ i) (h1 : i < n) : ∃ ad A14 c14 A15 c15, A = some ad ∧ w.cell? (ad.add (i.toNat * 16)) = some (.int .i64 (rd_T39 xs i).f0) ∧ w.cell? ⟨(ad.add (i.toNat * 16)).block, (ad.add (i.toNat * 16)).off + 1, none⟩ = some (.string (rd_T39 xs i).f1) ∧ w.cell? ⟨(ad.add (i.toNat * 16)).block, (ad.add (i.toNat * 16)).off + 2, none⟩ = some (.string (rd_T39 xs i).f2) ∧ w.cell? ⟨(ad.add (i.toNat * 16)).block, (ad.add (i.toNat * 16)).off + 3, none⟩ = some (.int .i64 (rd_T39 xs i).f3) ∧ w.cell? ⟨(ad.add (i.toNat * 16)).block, (ad.add (i.toNat * 16)).off + 4, none⟩ = some (.int .i64 (rd_T39 xs i).f4.f0) ∧ w.cell? ⟨(ad.add (i.toNat * 16)).block, (ad.add (i.toNat * 16)).off + 5, none⟩ = some (.string (rd_T39 xs i).f4.f1) ∧ w.cell? ⟨(ad.add (i.toNat * 16)).block, (ad.add (i.toNat * 16)).off + 6, none⟩ = some (.int .i64 (rd_T39 xs i).f5) ∧ w.cell? ⟨(ad.add (i.toNat * 16)).block, (ad.add (i.toNat * 16)).off + 7, none⟩ = some (.int .i64 (rd_T39 xs i).f6.f0) ∧ w.cell? ⟨(ad.add (i.toNat * 16)).block, (ad.add (i.toNat * 16)).off + 8, none⟩ = some (.string (rd_T39 xs i).f6.f1) ∧ w.cell? ⟨(ad.add (i.toNat * 16)).block, (ad.add (i.toNat * 16)).off + 9, none⟩ = some (.int .i64 (rd_T39 xs i).f7.f0) ∧ w.cell? ⟨(ad.add (i.toNat * 16)).block, (ad.add (i.toNat * 16)).off + 10, none⟩ = some (.int .i64 (rd_T39 xs i).f7.f1) ∧ w.cell? ⟨(ad.add (i.toNat * 16)).block, (ad.add (i.toNat * 16)).off + 11, none⟩ = some (.int .i64 (rd_T39 xs i).f7.f2.f0) ∧ w.cell? ⟨(ad.add (i.toNat * 16)).block, (ad.add (i.toNat * 16)).off + 12, none⟩ = some (.string (rd_T39 xs i).f7.f2.f1) ∧ w.cell? ⟨(ad.add (i.toNat * 16)).block, (ad.add (i.toNat * 16)).off + 13, none⟩ = some (.string (rd_T39 xs i).f7.f3) ∧ w.cell? ⟨(ad.add (i.toNat * 16)).block, (ad.add (i.toNat * 16)).off + 14, none⟩ = some (.slice A14 (rd_T39 xs i).f8.length c14) ∧ w.cell? ⟨(ad.add (i.toNat * 16)).block, (ad.add (i.toNat * 16)).off + 15, none⟩ = some (.slice A15 (rd_T39 xs i).f9.length c15) ∧ (rd_T39 xs i).f8.length ≤ c14 ∧ Kd.string.C w A14 (rd_T39 xs i).f8.length (rd_T39 xs i).f8 ∧ (rd_T39 xs i).f9.length ≤ c15 ∧ k39.C w A15 (rd_T39 xs i).f9.length (rd_T39 xs i).f9 := by
  obtain ⟨ad, c, e, _, hK, hc0⟩ := Kd.C_get h z39 i h0 h1
  have hc : ∀ j u, c[j]? = some u → w.cell? (ad.add (i.toNat * 16 + j)) = some u := hc0
  obtain ⟨A14, c14, A15, c15, rfl, l14, g14, l15, g15⟩ := k39_open hK
  exact ⟨ad, A14, c14, A15, c15, e, hc 0 _ rfl, by rw [← add_field _ _ 1 (by omega)]; exact hc 1 _ rfl, by rw [← add_field _ _ 2 (by omega)]; exact hc 2 _ rfl, by rw [← add_field _ _ 3 (by omega)]; exact hc 3 _ rfl, by rw [← add_field _ _ 4 (by omega)]; exact hc 4 _ rfl, by rw [← add_field _ _ 5 (by omega)]; exact hc 5 _ rfl, by rw [← add_field _ _ 6 (by omega)]; exact hc 6 _ rfl, by rw [← add_field _ _ 7 (by omega)]; exact hc 7 _ rfl, by rw [← add_field _ _ 8 (by omega)]; exact hc 8 _ rfl, by rw [← add_field _ _ 9 (by omega)]; exact hc 9 _ rfl, by rw [← add_field _ _ 10 (by omega)]; exact hc 10 _ rfl, by rw [← add_field _ _ 11 (by omega)]; exact hc 11 _ rfl, by rw [← add_field _ _ 12 (by omega)]; exact hc 12 _ rfl, by rw [← add_field _ _ 13 (by omega)]; exact hc 13 _ rfl, by rw [← add_field _ _ 14 (by omega)]; exact hc 14 _ rfl, by rw [← add_field _ _ 15 (by omega)]; exact hc 15 _ rfl, l14, g14, l15, g15⟩

/-! #### struct type 150 -/
structure S150 where
  f0 : ByteArray
  f1 : Bool
  f2 : S39
def z150 : S150 := ⟨(⟨#[]⟩ : ByteArray), false, z39⟩
def k150 : Kd S150 := Kd.iso (Kd.pair Kd.string (Kd.pair Kd.bool k39)) (fun x : S150 => (x.f0, x.f1, x.f2))
theorem k150_open {w : World} {x : S150} {cs : List Value} (h : k150.K w x cs) : ∃ A16 c16 A17 c17, cs = [.string x.f0, .bool x.f1, .int .i64 x.f2.f0, .string x.f2.f1, .string x.f2.f2, .int .i64 x.f2.f3, .int .i64 x.f2.f4.f0, .string x.f2.f4.f1, .int .i64 x.f2.f5, .int .i64 x.f2.f6.f0, .string x.f2.f6.f1, .int .i64 x.f2.f7.f0, .int .i64 x.f2.f7.f1, .int .i64 x.f2.f7.f2.f0, .string x.f2.f7.f2.f1, .string x.f2.f7.f3, .slice A16 x.f2.f8.length c16, .slice A17 x.f2.f9.length c17] ∧ x.f2.f8.length ≤ c16 ∧ Kd.string.C w A16 x.f2.f8.length x.f2.f8 ∧ x.f2.f9.length ≤ c17 ∧ k39.C w A17 x.f2.f9.length x.f2.f9 := by
  obtain ⟨_, _, rfl, rfl, ⟨_, _, rfl, rfl, s2⟩⟩ := h
  obtain ⟨A16, c16, A17, c17, rfl, l16, g16, l17, g17⟩ := k39_open s2
  exact ⟨A16, c16, A17, c17, rfl, l16, g16, l17, g17⟩
theorem k150_openM {w : World} {base : Nat} {ok : Nat → Prop} {x : S150} {cs : List Value} (h : k150.M w base ok x cs) : ∃ v16 v17, cs = [.string x.f0, .bool x.f1, .int .i64 x.f2.f0, .string x.f2.f1, .string x.f2.f2, .int .i64 x.f2.f3, .int .i64 x.f2.f4.f0, .string x.f2.f4.f1, .int .i64 x.f2.f5, .int .i64 x.f2.f6.f0, .string x.f2.f6.f1, .int .i64 x.f2.f7.f0, .int .i64 x.f2.f7.f1, .int .i64 x.f2.f7.f2.f0, .string x.f2.f7.f2.f1, .string x.f2.f7.f3, v16, v17] ∧ Kd.string.R 9 w base ok v16 x.f2.f8 ∧ k39.R 39 w base ok v17 x.f2.f9 := by
  obtain ⟨_, _, rfl, rfl, ⟨_, _, rfl, rfl, s2⟩⟩ := h
  obtain ⟨v16, v17, rfl, g16, g17⟩ := k39_openM s2
  exact ⟨v16, v17, rfl, g16, g17⟩
theorem k150_mk (w : World) (x : S150) {A16 : Option Addr} {c16 : Nat} (l16 : x.f2.f8.length ≤ c16) (g16 : Kd.string.C w A16 x.f2.f8.length x.f2.f8) {A17 : Option Addr} {c17 : Nat} (l17 : x.f2.f9.length ≤ c17) (g17 : k39.C w A17 x.f2.f9.length x.f2.f9) : k150.K w x [.string x.f0, .bool x.f1, .int .i64 x.f2.f0, .string x.f2.f1, .string x.f2.f2, .int .i64 x.f2.f3, .int .i64 x.f2.f4.f0, .string x.f2.f4.f1, .int .i64 x.f2.f5, .int .i64 x.f2.f6.f0, .string x.f2.f6.f1, .int .i64 x.f2.f7.f0, .int .i64 x.f2.f7.f1, .int .i64 x.f2.f7.f2.f0, .string x.f2.f7.f2.f1, .string x.f2.f7.f3, .slice A16 x.f2.f8.length c16, .slice A17 x.f2.f9.length c17] := ⟨[.string x.f0], [.bool x.f1, .int .i64 x.f2.f0, .string x.f2.f1, .string x.f2.f2, .int .i64 x.f2.f3, .int .i64 x.f2.f4.f0, .string x.f2.f4.f1, .int .i64 x.f2.f5, .int .i64 x.f2.f6.f0, .string x.f2.f6.f1, .int .i64 x.f2.f7.f0, .int .i64 x.f2.f7.f1, .int .i64 x.f2.f7.f2.f0, .string x.f2.f7.f2.f1, .string x.f2.f7.f3, .slice A16 x.f2.f8.length c16, .slice A17 x.f2.f9.length c17], rfl, rfl, ⟨[.bool x.f1], [.int .i64 x.f2.f0, .string x.f2.f1, .string x.f2.f2, .int .i64 x.f2.f3, .int .i64 x.f2.f4.f0, .string x.f2.f4.f1, .int .i64 x.f2.f5, .int .i64 x.f2.f6.f0, .string x.f2.f6.f1, .int .i64 x.f2.f7.f0, .int .i64 x.f2.f7.f1, .int .i64 x.f2.f7.f2.f0, .string x.f2.f7.f2.f1, .string x.f2.f7.f3, .slice A16 x.f2.f8.length c16, .slice A17 x.f2.f9.length c17], rfl, rfl, (k39_mk w x.f2 l16 g16 l17 g17)⟩⟩
theorem k150_mkM (w : World) (base : Nat) (ok : Nat → Prop) (x : S150) {v16 : Value} (g16 : Kd.string.R 9 w base ok v16 x.f2.f8) {v17 : Value} (g17 : k39.R 39 w base ok v17 x.f2.f9) : k150.M w base ok x [.string x.f0, .bool x.f1, .int .i64 x.f2.f0, .string x.f2.f1, .string x.f2.f2, .int .i64 x.f2.f3, .int .i64 x.f2.f4.f0, .string x.f2.f4.f1, .int .i64 x.f2.f5, .int .i64 x.f2.f6.f0, .string x.f2.f6.f1, .int .i64 x.f2.f7.f0, .int .i64 x.f2.f7.f1, .int .i64 x.f2.f7.f2.f0, .string x.f2.f7.f2.f1, .string x.f2.f7.f3, v16, v17] := ⟨[.string x.f0], [.bool x.f1, .int .i64 x.f2.f0, .string x.f2.f1, .string x.f2.f2, .int .i64 x.f2.f3, .int .i64 x.f2.f4.f0, .string x.f2.f4.f1, .int .i64 x.f2.f5, .int .i64 x.f2.f6.f0, .string x.f2.f6.f1, .int .i64 x.f2.f7.f0, .int .i64 x.f2.f7.f1, .int .i64 x.f2.f7.f2.f0, .string x.f2.f7.f2.f1, .string x.f2.f7.f3, v16, v17], rfl, rfl, ⟨[.bool x.f1], [.int .i64 x.f2.f0, .string x.f2.f1, .string x.f2.f2, .int .i64 x.f2.f3, .int .i64 x.f2.f4.f0, .string x.f2.f4.f1, .int .i64 x.f2.f5, .int .i64 x.f2.f6.f0, .string x.f2.f6.f1, .int .i64 x.f2.f7.f0, .int .i64 x.f2.f7.f1, .int .i64 x.f2.f7.f2.f0, .string x.f2.f7.f2.f1, .string x.f2.f7.f3, v16, v17], rfl, rfl, (k39_mkM w base ok x.f2 g16 g17)⟩⟩
theorem k150_openF {W : World} {ok : Nat → Prop} {x : S150} {cs : List Value} (h : Kd.FK k150 W ok x cs) : ∃ A16 c16 A17 c17, cs = [.string x.f0, .bool x.f1, .int .i64 x.f2.f0, .string x.f2.f1, .string x.f2.f2, .int .i64 x.f2.f3, .int .i64 x.f2.f4.f0, .string x.f2.f4.f1, .int .i64 x.f2.f5, .int .i64 x.f2.f6.f0, .string x.f2.f6.f1, .int .i64 x.f2.f7.f0, .int .i64 x.f2.f7.f1, .int .i64 x.f2.f7.f2.f0, .string x.f2.f7.f2.f1, .string x.f2.f7.f3, .slice A16 x.f2.f8.length c16, .slice A17 x.f2.f9.length c17] ∧ x.f2.f8.length ≤ c16 ∧ Kd.F Kd.string W ok A16 x.f2.f8.length x.f2.f8 ∧ x.f2.f9.length ≤ c17 ∧ Kd.F k39 W ok A17 x.f2.f9.length x.f2.f9 := by
  obtain ⟨A16, c16, A17, c17, rfl, l16, _, l17, _⟩ := k150_open (Kd.FK_now h)
  exact ⟨A16, c16, A17, c17, rfl, l16, (fun W' hW => by obtain ⟨A16_, c16_, A17_, c17_, he, l16_, g16_, l17_, g17_⟩ := k150_open (h W' hW); injection (Option.some.inj (show some (Value.slice A16 x.f2.f8.length c16) = some (Value.slice A16_ x.f2.f8.length c16_) from congrArg (fun l => l[16]?) he)) with ha_ _ _; rw [ha_]; exact g16_), l17, (fun W' hW => by obtain ⟨A16_, c16_, A17_, c17_, he, l16_, g16_, l17_, g17_⟩ := k150_open (h W' hW); injection (Option.some.inj (show some (Value.slice A17 x.f2.f9.length c17) = some (Value.slice A17_ x.f2.f9.length c17_) from congrArg (fun l => l[17]?) he)) with ha_ _ _; rw [ha_]; exact g17_)⟩
theorem k150_mkF (W : World) (ok : Nat → Prop) (x : S150) {A16 : Option Addr} {c16 : Nat} (l16 : x.f2.f8.length ≤ c16) (g16 : Kd.F Kd.string W ok A16 x.f2.f8.length x.f2.f8) {A17 : Option Addr} {c17 : Nat} (l17 : x.f2.f9.length ≤ c17) (g17 : Kd.F k39 W ok A17 x.f2.f9.length x.f2.f9) : Kd.FK k150 W ok x [.string x.f0, .bool x.f1, .int .i64 x.f2.f0, .string x.f2.f1, .string x.f2.f2, .int .i64 x.f2.f3, .int .i64 x.f2.f4.f0, .string x.f2.f4.f1, .int .i64 x.f2.f5, .int .i64 x.f2.f6.f0, .string x.f2.f6.f1, .int .i64 x.f2.f7.f0, .int .i64 x.f2.f7.f1, .int .i64 x.f2.f7.f2.f0, .string x.f2.f7.f2.f1, .string x.f2.f7.f3, .slice A16 x.f2.f8.length c16, .slice A17 x.f2.f9.length c17] := fun W2 hW => k150_mk W2 x l16 (g16 W2 hW) l17 (g17 W2 hW)
def rd_T150 (xs : List S150) (i : Int) : S150 := xs.getD i.toNat z150
theorem at_T150 {w : World} {A : Option Addr} {n : Nat} {xs : List S150} (h : Kd.C k150 w A n xs) (i : Int) (h0 : 0 ≤ i) (h1 : i < n) : ∃ ad A16 c16 A17 c17, A = some ad ∧ w.cell? (ad.add (i.toNat * 18)) = some (.string (rd_T150 xs i).f0) ∧ w.cell? ⟨(ad.add (i.toNat * 18)).block, (ad.add (i.toNat * 18)).off + 1, none⟩ = some (.bool (rd_T150 xs i).f1) ∧ w.cell? ⟨(ad.add (i.toNat * 18)).block, (ad.add (i.toNat * 18)).off + 2, none⟩ = some (.int .i64 (rd_T150 xs i).f2.f0) ∧ w.cell? ⟨(ad.add (i.toNat * 18)).block, (ad.add (i.toNat * 18)).off + 3, none⟩ = some (.string (rd_T150 xs i).f2.f1) ∧ w.cell? ⟨(ad.add (i.toNat * 18)).block, (ad.add (i.toNat * 18)).off + 4, none⟩ = some (.string (rd_T150 xs i).f2.f2) ∧ w.cell? ⟨(ad.add (i.toNat * 18)).block, (ad.add (i.toNat * 18)).off + 5, none⟩ = some (.int .i64 (rd_T150 xs i).f2.f3) ∧ w.cell? ⟨(ad.add (i.toNat * 18)).block, (ad.add (i.toNat * 18)).off + 6, none⟩ = some (.int .i64 (rd_T150 xs i).f2.f4.f0) ∧ w.cell? ⟨(ad.add (i.toNat * 18)).block, (ad.add (i.toNat * 18)).off + 7, none⟩ = some (.string (rd_T150 xs i).f2.f4.f1) ∧ w.cell? ⟨(ad.add (i.toNat * 18)).block, (ad.add (i.toNat * 18)).off + 8, none⟩ = some (.int .i64 (rd_T150 xs i).f2.f5) ∧ w.cell? ⟨(ad.add (i.toNat * 18)).block, (ad.add (i.toNat * 18)).off + 9, none⟩ = some (.int .i64 (rd_T150 xs i).f2.f6.f0) ∧ w.cell? ⟨(ad.add (i.toNat * 18)).block, (ad.add (i.toNat * 18)).off + 10, none⟩ = some (.string (rd_T150 xs i).f2.f6.f1) ∧ w.cell? ⟨(ad.add (i.toNat * 18)).block, (ad.add (i.toNat * 18)).off + 11, none⟩ = some (.int .i64 (rd_T150 xs i).f2.f7.f0) ∧ w.cell? ⟨(ad.add (i.toNat * 18)).block, (ad.add (i.toNat * 18)).off + 12, none⟩ = some (.int .i64 (rd_T150 xs i).f2.f7.f1) ∧ w.cell? ⟨(ad.add (i.toNat * 18)).block, (ad.add (i.toNat * 18)).off + 13, none⟩ = some (.int .i64 (rd_T150 xs i).f2.f7.f2.f0) ∧ w.cell? ⟨(ad.add (i.toNat * 18)).block, (ad.add (i.toNat * 18)).off + 14, none⟩ = some (.string (rd_T150 xs i).f2.f7.f2.f1) ∧ w.cell? ⟨(ad.add (i.toNat * 18)).block, (ad.add (i.toNat * 18)).off + 15, none⟩ = some (.string (rd_T150 xs i).f2.f7.f3) ∧ w.cell? ⟨(ad.add (i.toNat * 18)).block, (ad.add (i.toNat * 18)).off + 16, none⟩ = some (.slice A16 (rd_T150 xs i).f2.f8.length c16) ∧ w.cell? ⟨(ad.add (i.toNat * 18)).block, (ad.add (i.toNat * 18)).off + 17, none⟩ = some (.slice A17 (rd_T150 xs i).f2.f9.length c17) ∧ (rd_T150 xs i).f2.f8.length ≤ c16 ∧ Kd.string.C w A16 (rd_T150 xs i).f2.f8.length (rd_T150 xs i).f2.f8 ∧ (rd_T150 xs i).f2.f9.length ≤ c17 ∧ k39.C w A17 (rd_T150 xs i).f2.f9.length (rd_T150 xs i).f2.f9 := by
  obtain ⟨ad, c, e, _, hK, hc0⟩ := Kd.C_get h z150 i h0 h1
  have hc : ∀ j u, c[j]? = some u → w.cell? (ad.add (i.toNat * 18 + j)) = some u := hc0
  obtain ⟨A16, c16, A17, c17, rfl, l16, g16, l17, g17⟩ := k150_open hK
  exact ⟨ad, A16, c16, A17, c17, e, hc 0 _ rfl, by rw [← add_field _ _ 1 (by omega)]; exact hc 1 _ rfl, by rw [← add_field _ _ 2 (by omega)]; exact hc 2 _ rfl, by rw [← add_field _ _ 3 (by omega)]; exact hc 3 _ rfl, by rw [← add_field _ _ 4 (by omega)]; exact hc 4 _ rfl, by rw [← add_field _ _ 5 (by omega)]; exact hc 5 _ rfl, by rw [← add_field _ _ 6 (by omega)]; exact hc 6 _ rfl, by rw [← add_field _ _ 7 (by omega)]; exact hc 7 _ rfl, by rw [← add_field _ _ 8 (by omega)]; exact hc 8 _ rfl, by rw [← add_field _ _ 9 (by omega)]; exact hc 9 _ rfl, by rw [← add_field _ _ 10 (by omega)]; exact hc 10 _ rfl, by rw [← add_field _ _ 11 (by omega)]; exact hc 11 _ rfl, by rw [← add_field _ _ 12 (by omega)]; exact hc 12 _ rfl, by rw [← add_field _ _ 13 (by omega)]; exact hc 13 _ rfl, by rw [← add_field _ _ 14 (by omega)]; exact hc 14 _ rfl, by rw [← add_field _ _ 15 (by omega)]; exact hc 15 _ rfl, by rw [← add_field _ _ 16 (by omega)]; exact hc 16 _ rfl, by rw [← add_field _ _ 17 (by omega)]; exact hc 17 _ rfl, l16, g16, l17, g17⟩

/-! #### struct type 166 -/
structure S166 where
  f0 : S39
  f1 : Bool
  f2 : Bool
  f3 : ByteArray
def z166 : S166 := ⟨z39, false, false, (⟨#[]⟩ : ByteArray)⟩
def k166 : Kd S166 := Kd.iso (Kd.pair k39 (Kd.pair Kd.bool (Kd.pair Kd.bool Kd.string))) (fun x : S166 => (x.f0, x.f1, x.f2, x.f3))
theorem k166_open {w : World} {x : S166} {cs : List Value} (h : k166.K w x cs) : ∃ A14 c14 A15 c15, cs = [.int .i64 x.f0.f0, .string x.f0.f1, .string x.f0.f2, .int .i64 x.f0.f3, .int .i64 x.f0.f4.f0, .string x.f0.f4.f1, .int .i64 x.f0.f5, .int .i64 x.f0.f6.f0, .string x.f0.f6.f1, .int .i64 x.f0.f7.f0, .int .i64 x.f0.f7.f1, .int .i64 x.f0.f7.f2.f0, .string x.f0.f7.f2.f1, .string x.f0.f7.f3, .slice A14 x.f0.f8.length c14, .slice A15 x.f0.f9.length c15, .bool x.f1, .bool x.f2, .string x.f3] ∧ x.f0.f8.length ≤ c14 ∧ Kd.string.C w A14 x.f0.f8.length x.f0.f8 ∧ x.f0.f9.length ≤ c15 ∧ k39.C w A15 x.f0.f9.length x.f0.f9 := by
  obtain ⟨_, _, rfl, s0, ⟨_, _, rfl, rfl, ⟨_, _, rfl, rfl, rfl⟩⟩⟩ := h
  obtain ⟨A14, c14, A15, c15, rfl, l14, g14, l15, g15⟩ := k39_open s0
  exact ⟨A14, c14, A15, c15, rfl, l14, g14, l15, g15⟩
theorem k166_openM {w : World} {base : Nat} {ok : Nat → Prop} {x : S166} {cs : List Value} (h : k166.M w base ok x cs) : ∃ v14 v15, cs = [.int .i64 x.f0.f0, .string x.f0.f1, .string x.f0.f2, .int .i64 x.f0.f3, .int .i64 x.f0.f4.f0, .string x.f0.f4.f1, .int .i64 x.f0.f5, .int .i64 x.f0.f6.f0, .string x.f0.f6.f1, .int .i64 x.f0.f7.f0, .int .i64 x.f0.f7.f1, .int .i64 x.f0.f7.f2.f0, .string x.f0.f7.f2.f1, .string x.f0.f7.f3, v14, v15, .bool x.f1, .bool x.f2, .string x.f3] ∧ Kd.string.R 9 w base ok v14 x.f0.f8 ∧ k39.R 39 w base ok v15 x.f0.f9 := by
  obtain ⟨_, _, rfl, s0, ⟨_, _, rfl, rfl, ⟨_, _, rfl, rfl, rfl⟩⟩⟩ := h
  obtain ⟨v14, v15, rfl, g14, g15⟩ := k39_openM s0
  exact ⟨v14, v15, rfl, g14, g15⟩
theorem k166_mk (w : World) (x : S166) {A14 : Option Addr} {c14 : Nat} (l14 : x.f0.f8.length ≤ c14) (g14 : Kd.string.C w A14 x.f0.f8.length x.f0.f8) {A15 : Option Addr} {c15 : Nat} (l15 : x.f0.f9.length ≤ c15) (g15 : k39.C w A15 x.f0.f9.length x.f0.f9) : k166.K w x [.int .i64 x.f0.f0, .string x.f0.f1, .string x.f0.f2, .int .i64 x.f0.f3, .int .i64 x.f0.f4.f0, .string x.f0.f4.f1, .int .i64 x.f0.f5, .int .i64 x.f0.f6.f0, .string x.f0.f6.f1, .int .i64 x.f0.f7.f0, .int .i64 x.f0.f7.f1, .int .i64 x.f0.f7.f2.f0, .string x.f0.f7.f2.f1, .string x.f0.f7.f3, .slice A14 x.f0.f8.length c14, .slice A15 x.f0.f9.length c15, .bool x.f1, .bool x.f2, .string x.f3] := ⟨[.int .i64 x.f0.f0, .string x.f0.f1, .string x.f0.f2, .int .i64 x.f0.f3, .int .i64 x.f0.f4.f0, .string x.f0.f4.f1, .int .i64 x.f0.f5, .int .i64 x.f0.f6.f0, .string x.f0.f6.f1, .int .i64 x.f0.f7.f0, .int .i64 x.f0.f7.f1, .int .i64 x.f0.f7.f2.f0, .string x.f0.f7.f2.f1, .string x.f0.f7.f3, .slice A14 x.f0.f8.length c14, .slice A15 x.f0.f9.length c15], [.bool x.f1, .bool x.f2, .string x.f3], rfl, (k39_mk w x.f0 l14 g14 l15 g15), ⟨[.bool x.f1], [.bool x.f2, .string x.f3], rfl, rfl, ⟨[.bool x.f2], [.string x.f3], rfl, rfl, rfl⟩⟩⟩
theorem k166_mkM (w : World) (base : Nat) (ok : Nat → Prop) (x : S166) {v14 : Value} (g14 : Kd.string.R 9 w base ok v14 x.f0.f8) {v15 : Value} (g15 : k39.R 39 w base ok v15 x.f0.f9) : k166.M w base ok x [.int .i64 x.f0.f0, .string x.f0.f1, .string x.f0.f2, .int .i64 x.f0.f3, .int .i64 x.f0.f4.f0, .string x.f0.f4.f1, .int .i64 x.f0.f5, .int .i64 x.f0.f6.f0, .string x.f0.f6.f1, .int .i64 x.f0.f7.f0, .int .i64 x.f0.f7.f1, .int .i64 x.f0.f7.f2.f0, .string x.f0.f7.f2.f1, .string x.f0.f7.f3, v14, v15, .bool x.f1, .bool x.f2, .string x.f3] := ⟨[.int .i64 x.f0.f0, .string x.f0.f1, .string x.f0.f2, .int .i64 x.f0.f3, .int .i64 x.f0.f4.f0, .string x.f0.f4.f1, .int .i64 x.f0.f5, .int .i64 x.f0.f6.f0, .string x.f0.f6.f1, .int .i64 x.f0.f7.f0, .int .i64 x.f0.f7.f1, .int .i64 x.f0.f7.f2.f0, .string x.f0.f7.f2.f1, .string x.f0.f7.f3, v14, v15], [.bool x.f1, .bool x.f2, .string x.f3], rfl, (k39_mkM w base ok x.f0 g14 g15), ⟨[.bool x.f1], [.bool x.f2, .string x.f3], rfl, rfl, ⟨[.bool x.f2], [.string x.f3], rfl, rfl, rfl⟩⟩⟩
theorem k166_openF {W : World} {ok : Nat → Prop} {x : S166} {cs : List Value} (h : Kd.FK k166 W ok x cs) : ∃ A14 c14 A15 c15, cs = [.int .i64 x.f0.f0, .string x.f0.f1, .string x.f0.f2, .int .i64 x.f0.f3, .int .i64 x.f0.f4.f0, .string x.f0.f4.f1, .int .i64 x.f0.f5, .int .i64 x.f0.f6.f0, .string x.f0.f6.f1, .int .i64 x.f0.f7.f0, .int .i64 x.f0.f7.f1, .int .i64 x.f0.f7.f2.f0, .string x.f0.f7.f2.f1, .string x.f0.f7.f3, .slice A14 x.f0.f8.length c14, .slice A15 x.f0.f9.length c15, .bool x.f1, .bool x.f2, .string x.f3] ∧ x.f0.f8.length ≤ c14 ∧ Kd.F Kd.string W ok A14 x.f0.f8.length x.f0.f8 ∧ x.f0.f9.length ≤ c15 ∧ Kd.F k39 W ok A15 x.f0.f9.length x.f0.f9 := by
  obtain ⟨A14, c14, A15, c15, rfl, l14, _, l15, _⟩ := k166_open (Kd.FK_now h)
  exact ⟨A14, c14, A15, c15, rfl, l14, (fun W' hW => by obtain ⟨A14_, c14_, A15_, c15_, he, l14_, g14_, l15_, g15_⟩ := k166_open (h W' hW); injection (Option.some.inj (show some (Value.slice A14 x.f0.f8.length c14) = some (Value.slice A14_ x.f0.f8.length c14_) from congrArg (fun l => l[14]?) he)) with ha_ _ _; rw [ha_]; exact g14_), l15, (fun W' hW => by obtain ⟨A14_, c14_, A15_, c15_, he, l14_, g14_, l15_, g15_⟩ := k166_open (h W' hW); injection (Option.some.inj (show some (Value.slice A15 x.f0.f9.length c15) = some (Value.slice A15_ x.f0.f9.length c15_) from congrArg (fun l => l[15]?) he)) with ha_ _ _; rw [ha_]; exact g15_)⟩
theorem k166_mkF (W : World) (ok : Nat → Prop) (x : S166) {A14 : Option Addr} {c14 : Nat} (l14 : x.f0.f8.length ≤ c14) (g14 : Kd.F Kd.string W ok A14 x.f0.f8.length x.f0.f8) {A15 : Option Addr} {c15 : Nat} (l15 : x.f0.f9.length ≤ c15) (g15 : Kd.F k39 W ok A15 x.f0.f9.length x.f0.f9) : Kd.FK k166 W ok x [.int .i64 x.f0.f0, .string x.f0.f1, .string x.f0.f2, .int .i64 x.f0.f3, .int .i64 x.f0.f4.f0, .string x.f0.f4.f1, .int .i64 x.f0.f5, .int .i64 x.f0.f6.f0, .string x.f0.f6.f1, .int .i64 x.f0.f7.f0, .int .i64 x.f0.f7.f1, .int .i64 x.f0.f7.f2.f0, .string x.f0.f7.f2.f1, .string x.f0.f7.f3, .slice A14 x.f0.f8.length c14, .slice A15 x.f0.f9.length c15, .bool x.f1, .bool x.f2, .string x.f3] := fun W2 hW => k166_mk W2 x l14 (g14 W2 hW) l15 (g15 W2 hW)
def rd_T166 (xs : List S166) (i : Int) : S166 := xs.getD i.toNat z166
theorem at_T166 {w : World} {A : Option Addr} {n : Nat} {xs : List S166} (h : Kd.C k166 w A n xs) (i : Int) (h0 : 0 ≤ i) (h1 : i < n) : ∃ ad A14 c14 A15 c15, A = some ad ∧ w.cell? (ad.add (i.toNat * 19)) = some (.int .i64 (rd_T166 xs i).f0.f0) ∧ w.cell? ⟨(ad.add (i.toNat * 19)).block, (ad.add (i.toNat * 19)).off + 1, none⟩ = some (.string (rd_T166 xs i).f0.f1) ∧ w.cell? ⟨(ad.add (i.toNat * 19)).block, (ad.add (i.toNat * 19)).off + 2, none⟩ = some (.string (rd_T166 xs i).f0.f2) ∧ w.cell? ⟨(ad.add (i.toNat * 19)).block, (ad.add (i.toNat * 19)).off + 3, none⟩ = some (.int .i64 (rd_T166 xs i).f0.f3) ∧ w.cell? ⟨(ad.add (i.toNat * 19)).block, (ad.add (i.toNat * 19)).off + 4, none⟩ = some (.int .i64 (rd_T166 xs i).f0.f4.f0) ∧ w.cell? ⟨(ad.add (i.toNat * 19)).block, (ad.add (i.toNat * 19)).off + 5, none⟩ = some (.string (rd_T166 xs i).f0.f4.f1) ∧ w.cell? ⟨(ad.add (i.toNat * 19)).block, (ad.add (i.toNat * 19)).off + 6, none⟩ = some (.int .i64 (rd_T166 xs i).f0.f5) ∧ w.cell? ⟨(ad.add (i.toNat * 19)).block, (ad.add (i.toNat * 19)).off + 7, none⟩ = some (.int .i64 (rd_T166 xs i).f0.f6.f0) ∧ w.cell? ⟨(ad.add (i.toNat * 19)).block, (ad.add (i.toNat * 19)).off + 8, none⟩ = some (.string (rd_T166 xs i).f0.f6.f1) ∧ w.cell? ⟨(ad.add (i.toNat * 19)).block, (ad.add (i.toNat * 19)).off + 9, none⟩ = some (.int .i64 (rd_T166 xs i).f0.f7.f0) ∧ w.cell? ⟨(ad.add (i.toNat * 19)).block, (ad.add (i.toNat * 19)).off + 10, none⟩ = some (.int .i64 (rd_T166 xs i).f0.f7.f1) ∧ w.cell? ⟨(ad.add (i.toNat * 19)).block, (ad.add (i.toNat * 19)).off + 11, none⟩ = some (.int .i64 (rd_T166 xs i).f0.f7.f2.f0) ∧ w.cell? ⟨(ad.add (i.toNat * 19)).block, (ad.add (i.toNat * 19)).off + 12, none⟩ = some (.string (rd_T166 xs i).f0.f7.f2.f1) ∧ w.cell? ⟨(ad.add (i.toNat * 19)).block, (ad.add (i.toNat * 19)).off + 13, none⟩ = some (.string (rd_T166 xs i).f0.f7.f3) ∧ w.cell? ⟨(ad.add (i.toNat * 19)).block, (ad.add (i.toNat * 19)).off + 14, none⟩ = some (.slice A14 (rd_T166 xs i).f0.f8.length c14) ∧ w.cell? ⟨(ad.add (i.toNat * 19)).block, (ad.add (i.toNat * 19)).off + 15, none⟩ = some (.slice A15 (rd_T166 xs i).f0.f9.length c15) ∧ w.cell? ⟨(ad.add (i.toNat * 19)).block, (ad.add (i.toNat * 19)).off + 16, none⟩ = some (.bool (rd_T166 xs i).f1) ∧ w.cell? ⟨(ad.add (i.toNat * 19)).block, (ad.add (i.toNat * 19)).off + 17, none⟩ = some (.bool (rd_T166 xs i).f2) ∧ w.cell? ⟨(ad.add (i.toNat * 19)).block, (ad.add (i.toNat * 19)).off + 18, none⟩ = some (.string (rd_T166 xs i).f3) ∧ (rd_T166 xs i).f0.f8.length ≤ c14 ∧ Kd.string.C w A14 (rd_T166 xs i).f0.f8.length (rd_T166 xs i).f0.f8 ∧ (rd_T166 xs i).f0.f9.length ≤ c15 ∧ k39.C w A15 (rd_T166 xs i).f0.f9.length (rd_T166 xs i).f0.f9 := by
  obtain ⟨ad, c, e, _, hK, hc0⟩ := Kd.C_get h z166 i h0 h1
  have hc : ∀ j u, c[j]? = some u → w.cell? (ad.add (i.toNat * 19 + j)) = some u := hc0
  obtain ⟨A14, c14, A15, c15, rfl, l14, g14, l15, g15⟩ := k166_open hK
  exact ⟨ad, A14, c14, A15, c15, e, hc 0 _ rfl, by rw [← add_field _ _ 1 (by omega)]; exact hc 1 _ rfl, by rw [← add_field _ _ 2 (by omega)]; exact hc 2 _ rfl, by rw [← add_field _ _ 3 (by omega)]; exact hc 3 _ rfl, by rw [← add_field _ _ 4 (by omega)]; exact hc 4 _ rfl, by rw [← add_field _ _ 5 (by omega)]; exact hc 5 _ rfl, by rw [← add_field _ _ 6 (by omega)]; exact hc 6 _ rfl, by rw [← add_field _ _ 7 (by omega)]; exact hc 7 _ rfl, by rw [← add_field _ _ 8 (by omega)]; exact hc 8 _ rfl, by rw [← add_field _ _ 9 (by omega)]; exact hc 9 _ rfl, by rw [← add_field _ _ 10 (by omega)]; exact hc 10 _ rfl, by rw [← add_field _ _ 11 (by omega)]; exact hc 11 _ rfl, by rw [← add_field _ _ 12 (by omega)]; exact hc 12 _ rfl, by rw [← add_field _ _ 13 (by omega)]; exact hc 13 _ rfl, by rw [← add_field _ _ 14 (by omega)]; exact hc 14 _ rfl, by rw [← add_field _ _ 15 (by omega)]; exact hc 15 _ rfl, by rw [← add_field _ _ 16 (by omega)]; exact hc 16 _ rfl, by rw [← add_field _ _ 17 (by omega)]; exact hc 17 _ rfl, by rw [← add_field _ _ 18 (by omega)]; exact hc 18 _ rfl, l14, g14, l15, g15⟩

def rd_L11 (xs : List (List S150)) (i : Int) : (List S150) := xs.getD i.toNat ([] : List S150)
theorem at_L11 {w : World} {A : Option Addr} {n : Nat} {xs : List (List S150)} (h : Kd.C (Kd.slice 150 k150) w A n xs) (i : Int) (h0 : 0 ≤ i) (h1 : i < n) : ∃ ad A0 c0, A = some ad ∧ w.cell? (ad.add i.toNat) = some (.slice A0 (rd_L11 xs i).length c0) ∧ (rd_L11 xs i).length ≤ c0 ∧ k150.C w A0 (rd_L11 xs i).length (rd_L11 xs i) := by
  obtain ⟨ad, c, e, _, hK, hc0⟩ := Kd.C_get h ([] : List S150) i h0 h1
  have hc : ∀ j u, c[j]? = some u → w.cell? (ad.add (i.toNat * 1 + j)) = some u := hc0
  obtain ⟨A0, c0, rfl, l0, g0⟩ := hK
  exact ⟨ad, A0, c0, e, by have hq := hc 0 _ rfl; rwa [Nat.mul_one, Nat.add_zero] at hq, l0, g0⟩

def rd_L12 (xs : List (List S166)) (i : Int) : (List S166) := xs.getD i.toNat ([] : List S166)
theorem at_L12 {w : World} {A : Option Addr} {n : Nat} {xs : List (List S166)} (h : Kd.C (Kd.slice 166 k166) w A n xs) (i : Int) (h0 : 0 ≤ i) (h1 : i < n) : ∃ ad A0 c0, A = some ad ∧ w.cell? (ad.add i.toNat) = some (.slice A0 (rd_L12 xs i).length c0) ∧ (rd_L12 xs i).length ≤ c0 ∧ k166.C w A0 (rd_L12 xs i).length (rd_L12 xs i) := by
  obtain ⟨ad, c, e, _, hK, hc0⟩ := Kd.C_get h ([] : List S166) i h0 h1
  have hc : ∀ j u, c[j]? = some u → w.cell? (ad.add (i.toNat * 1 + j)) = some u := hc0
  obtain ⟨A0, c0, rfl, l0, g0⟩ := hK
  exact ⟨ad, A0, c0, e, by have hq := hc 0 _ rfl; rwa [Nat.mul_one, Nat.add_zero] at hq, l0, g0⟩

/-! #### struct type 67 -/
structure S67 where
  f0 : ByteArray
  f1 : Int
def z67 : S67 := ⟨(⟨#[]⟩ : ByteArray), (0 : Int)⟩
def k67 : Kd S67 := Kd.iso (Kd.pair Kd.string (Kd.int .i64)) (fun x : S67 => (x.f0, x.f1))
theorem k67_open {w : World} {x : S67} {cs : List Value} (h : k67.K w x cs) : cs = [.string x.f0, .int .i64 x.f1] := by
  obtain ⟨_, _, rfl, rfl, rfl⟩ := h
  exact rfl
theorem k67_openM {w : World} {base : Nat} {ok : Nat → Prop} {x : S67} {cs : List Value} (h : k67.M w base ok x cs) : cs = [.string x.f0, .int .i64 x.f1] := by
  obtain ⟨_, _, rfl, rfl, rfl⟩ := h
  exact rfl
theorem k67_mk (w : World) (x : S67)  : k67.K w x [.string x.f0, .int .i64 x.f1] := ⟨[.string x.f0], [.int .i64 x.f1], rfl, rfl, rfl⟩
theorem k67_mkM (w : World) (base : Nat) (ok : Nat → Prop) (x : S67)  : k67.M w base ok x [.string x.f0, .int .i64 x.f1] := ⟨[.string x.f0], [.int .i64 x.f1], rfl, rfl, rfl⟩
theorem k67_mkF (W : World) (ok : Nat → Prop) (x : S67) : Kd.FK k67 W ok x [.string x.f0, .int .i64 x.f1] := fun W2 _ => k67_mk W2 x
def rd_T67 (xs : List S67) (i : Int) : S67 := xs.getD i.toNat z67
theorem at_T67 {w : World} {A : Option Addr} {n : Nat} {xs : List S67} (h : Kd.C k67 w A n xs) (i : Int) (h0 : 0 ≤ i) (h1 : i < n) : ∃ ad , A = some ad ∧ w.cell? (ad.add (i.toNat * 2)) = some (.string (rd_T67 xs i).f0) ∧ w.cell? ⟨(ad.add (i.toNat * 2)).block, (ad.add (i.toNat * 2)).off + 1, none⟩ = some (.int .i64 (rd_T67 xs i).f1) := by
  obtain ⟨ad, c, e, _, hK, hc0⟩ := Kd.C_get h z67 i h0 h1
  have hc : ∀ j u, c[j]? = some u → w.cell? (ad.add (i.toNat * 2 + j)) = some u := hc0
  obtain rfl := k67_open hK
  exact ⟨ad, e, hc 0 _ rfl, by rw [← add_field _ _ 1 (by omega)]; exact hc 1 _ rfl⟩

end Go.Proofs.YtiehafgmdbiplaaGreatDoor.PStreamableBounds
