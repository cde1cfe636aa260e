/- Part of the proof that the law ScopeKnows answers true: Itoa at any number. No condition. -/
import Derived.Shelf.LaysM
import Derived.Shelf.Strconv.Itoa1
import Derived.Shelf.Strconv.Itoa2
import Derived.Lib.Walk
import Derived.Lib.ItoaMem
import Derived.WalkKit
import Derived.BigCall
import Derived.BigGuard
set_option linter.unusedSectionVars false
set_option linter.unusedSimpArgs false
set_option linter.unusedVariables false
namespace Go.Sk
open Go Go.Shelf Go.RowKit Go.Sort Go.Lib Go.Proofs
variable {P : Program} {ρ : Ren}
/-- what FormatInt at base 10 and its callers are, where formatBits is a wall: the kit's layings of numDigits and formatBase10, and the three bodies -/
structure ItLays (P : Program) (ρ : Ren) : Prop extends toTab : LaysM.n284 P ρ, toFmt : Lays.n285 P ρ where
  f171 : P.funcs[ρ.f 171]? = some (Body.n171 ρ)
  f243 : P.funcs[ρ.f 243]? = some (Body.n243 ρ)
  f246 : P.funcs[ρ.f 246]? = some (Body.n246 ρ)
  f283 : P.funcs[ρ.f 283]? = some (Body.n283 ρ)
  t2 : P.underlying (ρ.t 2) = some (TypeDesc.int IntKind.i64)
  a2 : ∀ w, (isAgg (ρ.t 2)).run P w = .ok false w
  z2 : ∀ w, (Go.sizeOf (ρ.t 2)).run P w = .ok 1 w
  v2 : ∀ w, (zeroValue (ρ.t 2)).run P w = .ok (Value.int IntKind.i64 0) w
  t171 : P.underlying (ρ.t 171) = some (TypeDesc.array 24 (ρ.t 5))
  a171 : ∀ w, (isAgg (ρ.t 171)).run P w = .ok true w
  z171 : ∀ w, (Go.sizeOf (ρ.t 171)).run P w = .ok 24 w
  v171 : ∀ w, (zeroValue (ρ.t 171)).run P w = .ok (Value.agg #[Value.int IntKind.u8 0, Value.int IntKind.u8 0, Value.int IntKind.u8 0, Value.int IntKind.u8 0, Value.int IntKind.u8 0, Value.int IntKind.u8 0, Value.int IntKind.u8 0, Value.int IntKind.u8 0, Value.int IntKind.u8 0, Value.int IntKind.u8 0, Value.int IntKind.u8 0, Value.int IntKind.u8 0, Value.int IntKind.u8 0, Value.int IntKind.u8 0, Value.int IntKind.u8 0, Value.int IntKind.u8 0, Value.int IntKind.u8 0, Value.int IntKind.u8 0, Value.int IntKind.u8 0, Value.int IntKind.u8 0, Value.int IntKind.u8 0, Value.int IntKind.u8 0, Value.int IntKind.u8 0, Value.int IntKind.u8 0]) w
  t173 : P.underlying (ρ.t 173) = some (TypeDesc.tuple #[ρ.t 37, ρ.t 9])
  a173 : ∀ w, (isAgg (ρ.t 173)).run P w = .ok false w
  z173 : ∀ w, (Go.sizeOf (ρ.t 173)).run P w = .ok 1 w
  v173 : ∀ w, (zeroValue (ρ.t 173)).run P w = .ok (Value.tuple #[Value.slice none 0 0, Value.string { data := #[] }]) w
/-- FormatInt's answer at base 10, at any int -/
def ItSays (P : Program) (f : FuncId) (args : Array Value) (n : Int) (w : World) : Prop := Calls P f args w fun e w' => e = .returned (.string ⟨(itoa n).toArray⟩) ∧ ∃ k os, w' = grow (w.drewN k) os
set_option maxHeartbeats 6400000 in
set_option maxRecDepth 100000 in
theorem it_small (L : ItLays P ρ) (i : Nat) (hi : i < 100) (w : World) : ItSays P (ρ.f 246) #[.int .i64 i, .int .i64 10] i w := by
  unfold ItSays
  have mixed := L.mixed
  have t2 := L.t2; have a2 := L.a2; have z2 := L.z2; have v2 := L.v2
  have t3 := L.t3; have a3 := L.a3; have z3 := L.z3; have v3 := L.v3
  have t9 := L.t9; have a9 := L.a9; have z9 := L.z9; have v9 := L.v9
  have t4 := L.t4; have a4 := L.a4; have z4 := L.z4; have v4 := L.v4
  have t171 := L.t171; have a171 := L.a171; have z171 := L.z171; have v171 := L.v171
  have t0 := L.t0; have a0 := L.a0; have z0 := L.z0; have v0 := L.v0
  have t53 := L.t53; have a53 := L.a53; have z53 := L.z53; have v53 := L.v53
  have t37 := L.t37; have a37 := L.a37; have z37 := L.z37; have v37 := L.v37
  have t5 := L.t5; have a5 := L.a5; have z5 := L.z5; have v5 := L.v5
  have t173 := L.t173; have a173 := L.a173; have z173 := L.z173; have v173 := L.v173
  have e283 : ∀ args w, (callFunc (ρ.f 283) args).run P w = .ok (.enter (ρ.f 283) args) w := enters_of L.f283 (by kernel_rfl) rfl
  go_enter L.f246, Body.n246_ntmps ρ
  go_wp2_with (go_at_fn (ρ.f 283); refine (Any.internal_strconv_small { L with } i hi _).mono ?_; rintro e w' ⟨rfl, rfl⟩)
  go_ret
  refine ⟨?_, 0, #[], by simp [World.drewN_zero]⟩
  rw [itoa_nonneg]
  rfl
set_option maxHeartbeats 6400000 in
set_option maxRecDepth 100000 in
theorem it_neg (L : ItLays P ρ) (u : Nat) (hu1 : 1 ≤ u) (hlo : u ≤ 9223372036854775808) (w : World) (htab : TabIs P w "internal/strconv.uint64pow10" .u64 pow10Tab) : ItSays P (ρ.f 246) #[.int .i64 (-(u : Int)), .int .i64 10] (-(u : Int)) w := by
  have hu64 : u < 18446744073709551616 := by omega
  have hwr : IntKind.u64.wrap (-IntKind.u64.wrap (-(u : Int))) = (u : Int) := by rw [IntKind.wrap_u64, IntKind.wrap_u64]; omega
  unfold ItSays
  have mixed := L.mixed
  have t2 := L.t2; have a2 := L.a2; have z2 := L.z2; have v2 := L.v2
  have t3 := L.t3; have a3 := L.a3; have z3 := L.z3; have v3 := L.v3
  have t9 := L.t9; have a9 := L.a9; have z9 := L.z9; have v9 := L.v9
  have t4 := L.t4; have a4 := L.a4; have z4 := L.z4; have v4 := L.v4
  have t171 := L.t171; have a171 := L.a171; have z171 := L.z171; have v171 := L.v171
  have t0 := L.t0; have a0 := L.a0; have z0 := L.z0; have v0 := L.v0
  have t53 := L.t53; have a53 := L.a53; have z53 := L.z53; have v53 := L.v53
  have t37 := L.t37; have a37 := L.a37; have z37 := L.z37; have v37 := L.v37
  have t5 := L.t5; have a5 := L.a5; have z5 := L.z5; have v5 := L.v5
  have t173 := L.t173; have a173 := L.a173; have z173 := L.z173; have v173 := L.v173
  have e283 : ∀ args w, (callFunc (ρ.f 283) args).run P w = .ok (.enter (ρ.f 283) args) w := enters_of L.f283 (by kernel_rfl) rfl
  have e284 : ∀ args w, (callFunc (ρ.f 284) args).run P w = .ok (.enter (ρ.f 284) args) w := enters_of L.f284 (by kernel_rfl) rfl
  have e285 : ∀ args w, (callFunc (ρ.f 285) args).run P w = .ok (.enter (ρ.f 285) args) w := enters_of L.f285 (by kernel_rfl) rfl
  have hnd20 : nDigits u ≤ 20 := by have := numDigits_eq u hu1 hu64; split at this <;> omega
  have hb3 : nDigits u ≤ 23 := by omega
  have hal : P.arrayLen (ρ.t 171) = 24 := by simp [Program.arrayLen, L.t171]
  have hel : P.elem (ρ.t 171) = some (ρ.t 5) := by simp [Program.elem, L.t171]
  have hsl1 : ∀ W, (Instr.sliceAt (ρ.t 171) (.pointer (some ⟨w.heap.size, 0, none⟩)) (some (.int .i64 1)) (some (.int .i64 (1 + (nDigits u : Int)))) none).run P W = .ok (.slice (some ⟨w.heap.size, 1, none⟩) (nDigits u) 23) W := fun W => by
    rw [run_sliceAt_array_lh W (ρ.t 171) ⟨w.heap.size, 0, none⟩ (by simp [Program.arrayLen, Program.elem, L.t171]) .i64 .i64 1 (1 + (nDigits u : Int)) (by omega) (by omega) (by rw [hal]; omega)]
    go_simp
    omega
  have hH0 := holds_zero w (ρ.t 171) (nDigits u) (by omega)
  have hfmt := Any.internal_strconv_formatBase10 { L with } w.heap.size 1 23 u (Array.replicate (nDigits u) 0) (w.alloc (.cells zeros24 (ρ.t 171))) hH0 (by rw [Array.size_replicate]; exact lt_pow_nDigits u) hu64 (by rw [Array.size_replicate]; omega)
  rw [Array.size_replicate] at hfmt
  have HH0 := Lib.hid hH0
  clear hH0
  have hal' := Lib.hid hal
  clear hal
  go_enter L.f246, Body.n246_ntmps ρ
  go_wp2_with (first
    | (go_at_fn (ρ.f 284); refine (Any.internal_strconv_numDigits { L with } u hu1 hu64 _ (tabIs_alloc htab _)).mono ?_; rintro e w' ⟨rfl, rfl⟩))
  go_at_fn (ρ.f 285)
  refine hfmt.mono ?_
  rintro e w' ⟨rfl, k, v', dk, rfl, hF⟩
  generalize hW : (putRow (fun (b : UInt8) => Value.int .u8 (b.toNat : Int)) (w.alloc (.cells zeros24 (ρ.t 171))) w.heap.size 1 dk).drewN k = W
  have hrow : ∀ (i : Nat) (hi : i < (decDigits u).length), W.cell? ⟨w.heap.size, 1 + i, none⟩ = some (.int .u8 (((decDigits u)[i]).toNat : Int)) := fun i hi => by
    rw [← hW, row_is_numeral hF i hi, World.cell?_drewN]
    exact cell?_putRow (fun (b : UInt8) => Value.int .u8 (b.toNat : Int)) _ w.heap.size 1 _ dk HH0.out (by rw [hF.size, Array.size_replicate]) i (by rw [hF.size]; rw [decDigits_length] at hi; exact hi)
  have hc0 : W.cell? ⟨w.heap.size, 0, none⟩ = some (.int .u8 0) := by
    rw [← hW, World.cell?_drewN, cell?_putRow_other _ _ _ _ _ _ (Or.inr (Or.inl (Nat.zero_lt_one))), World.cell?_alloc_new]
    exact zeros24_at 0 (by omega)
  have hf0 : W.frozen? ⟨w.heap.size, 0, none⟩ = false := by
    rw [← hW, World.frozen?_drewN, frozen?_putRow]
    exact World.frozen?_alloc_new _ _ _ _
  have hsl2 : ∀ W, (Instr.sliceAt (ρ.t 171) (.pointer (some ⟨w.heap.size, 0, none⟩)) none (some (.int .i64 (1 + (nDigits u : Int)))) none).run P W = .ok (.slice (some ⟨w.heap.size, 0, none⟩) (1 + nDigits u) 24) W := fun W => by
    rw [run_sliceAt_array_h W (ρ.t 171) ⟨w.heap.size, 0, none⟩ (by simp [Program.arrayLen, Program.elem, L.t171]) .i64 (1 + (nDigits u : Int)) (by omega) (by rw [hal'.out]; omega)]
    rw [hal'.out]
    go_simp
    omega
  have hcv : (convert (ρ.t 37) (ρ.t 9) (.slice (some ⟨w.heap.size, 0, none⟩) (1 + nDigits u) 24)).run P (W.setCell ⟨w.heap.size, 0, none⟩ (.int .u8 45)) = .ok (.string ⟨(45 :: decDigits u).toArray⟩) (W.setCell ⟨w.heap.size, 0, none⟩ (.int .u8 45)) := by
    have h := run_convert_bytes_back (P := P) (W.setCell ⟨w.heap.size, 0, none⟩ (.int .u8 45)) (ρ.t 37) (ρ.t 9) (ρ.t 5) ⟨w.heap.size, 0, none⟩ 24 (45 :: decDigits u) L.t37 L.t5 L.t9 (fun j hj => by
      rw [add_plain]
      cases j with
      | zero => exact World.cell?_setCell_same _ _ _ hc0
      | succ i =>
        have hi : i < (decDigits u).length := by simpa using hj
        rw [World.cell?_setCell_other _ _ _ _ (by simp), List.getElem_cons_succ, show 0 + (i + 1) = 1 + i by omega]
        exact hrow i hi)
    rw [List.length_cons, decDigits_length, Nat.add_comm] at h
    exact h
  go_wp2
  go_ret
  subst hW
  obtain ⟨os, eo⟩ := fin_neg w (.cells zeros24 (ρ.t 171)) dk k (.int .u8 45)
  refine ⟨?_, k, os, eo⟩
  rw [itoa_neg u hu1]
  rfl
set_option maxHeartbeats 6400000 in
set_option maxRecDepth 100000 in
theorem it_pos (L : ItLays P ρ) (u : Nat) (hs : 100 ≤ u) (hhi : u ≤ 9223372036854775807) (w : World) (htab : TabIs P w "internal/strconv.uint64pow10" .u64 pow10Tab) : ItSays P (ρ.f 246) #[.int .i64 u, .int .i64 10] u w := by
  have hu1 : 1 ≤ u := by omega
  have hu64 : u < 18446744073709551616 := by omega
  unfold ItSays
  have mixed := L.mixed
  have t2 := L.t2; have a2 := L.a2; have z2 := L.z2; have v2 := L.v2
  have t3 := L.t3; have a3 := L.a3; have z3 := L.z3; have v3 := L.v3
  have t9 := L.t9; have a9 := L.a9; have z9 := L.z9; have v9 := L.v9
  have t4 := L.t4; have a4 := L.a4; have z4 := L.z4; have v4 := L.v4
  have t171 := L.t171; have a171 := L.a171; have z171 := L.z171; have v171 := L.v171
  have t0 := L.t0; have a0 := L.a0; have z0 := L.z0; have v0 := L.v0
  have t53 := L.t53; have a53 := L.a53; have z53 := L.z53; have v53 := L.v53
  have t37 := L.t37; have a37 := L.a37; have z37 := L.z37; have v37 := L.v37
  have t5 := L.t5; have a5 := L.a5; have z5 := L.z5; have v5 := L.v5
  have t173 := L.t173; have a173 := L.a173; have z173 := L.z173; have v173 := L.v173
  have e283 : ∀ args w, (callFunc (ρ.f 283) args).run P w = .ok (.enter (ρ.f 283) args) w := enters_of L.f283 (by kernel_rfl) rfl
  have e284 : ∀ args w, (callFunc (ρ.f 284) args).run P w = .ok (.enter (ρ.f 284) args) w := enters_of L.f284 (by kernel_rfl) rfl
  have e285 : ∀ args w, (callFunc (ρ.f 285) args).run P w = .ok (.enter (ρ.f 285) args) w := enters_of L.f285 (by kernel_rfl) rfl
  have hnd20 : nDigits u ≤ 20 := by have := numDigits_eq u hu1 hu64; split at this <;> omega
  have hb3 : nDigits u ≤ 23 := by omega
  have hal : P.arrayLen (ρ.t 171) = 24 := by simp [Program.arrayLen, L.t171]
  have hel : P.elem (ρ.t 171) = some (ρ.t 5) := by simp [Program.elem, L.t171]
  have hsl1 : ∀ W, (Instr.sliceAt (ρ.t 171) (.pointer (some ⟨w.heap.size, 0, none⟩)) (some (.int .i64 1)) (some (.int .i64 (1 + (nDigits u : Int)))) none).run P W = .ok (.slice (some ⟨w.heap.size, 1, none⟩) (nDigits u) 23) W := fun W => by
    rw [run_sliceAt_array_lh W (ρ.t 171) ⟨w.heap.size, 0, none⟩ (by simp [Program.arrayLen, Program.elem, L.t171]) .i64 .i64 1 (1 + (nDigits u : Int)) (by omega) (by omega) (by rw [hal]; omega)]
    go_simp
    omega
  have hH0 := holds_zero w (ρ.t 171) (nDigits u) (by omega)
  have hfmt := Any.internal_strconv_formatBase10 { L with } w.heap.size 1 23 u (Array.replicate (nDigits u) 0) (w.alloc (.cells zeros24 (ρ.t 171))) hH0 (by rw [Array.size_replicate]; exact lt_pow_nDigits u) hu64 (by rw [Array.size_replicate]; omega)
  rw [Array.size_replicate] at hfmt
  have HH0 := Lib.hid hH0
  clear hH0
  clear hal
  go_enter L.f246, Body.n246_ntmps ρ
  go_wp2_with (first
    | (go_at_fn (ρ.f 284); refine (Any.internal_strconv_numDigits { L with } u hu1 hu64 _ (tabIs_alloc htab _)).mono ?_; rintro e w' ⟨rfl, rfl⟩))
  go_at_fn (ρ.f 285)
  refine hfmt.mono ?_
  rintro e w' ⟨rfl, k, v', dk, rfl, hF⟩
  generalize hW : (putRow (fun (b : UInt8) => Value.int .u8 (b.toNat : Int)) (w.alloc (.cells zeros24 (ρ.t 171))) w.heap.size 1 dk).drewN k = W
  have hcv : (convert (ρ.t 37) (ρ.t 9) (.slice (some ⟨w.heap.size, 1, none⟩) (nDigits u) 23)).run P W = .ok (.string ⟨(decDigits u).toArray⟩) W := by
    have h := run_convert_bytes_back (P := P) W (ρ.t 37) (ρ.t 9) (ρ.t 5) ⟨w.heap.size, 1, none⟩ 23 (decDigits u) L.t37 L.t5 L.t9 (fun j hj => by
      rw [← hW, row_is_numeral hF j hj, add_plain, World.cell?_drewN]
      exact cell?_putRow (fun (b : UInt8) => Value.int .u8 (b.toNat : Int)) _ w.heap.size 1 _ dk HH0.out (by rw [hF.size, Array.size_replicate]) j (by rw [hF.size]; rw [decDigits_length] at hj; exact hj))
    rw [decDigits_length] at h
    exact h
  go_wp2
  go_ret
  subst hW
  obtain ⟨os, eo⟩ := fin_pos w (.cells zeros24 (ρ.t 171)) dk k
  refine ⟨?_, k, os, eo⟩
  rw [itoa_nonneg]
  rfl
theorem it_format (L : ItLays P ρ) (n : Int) (h0 : -9223372036854775808 ≤ n) (h1 : n ≤ 9223372036854775807) (w : World) (htab : TabIs P w "internal/strconv.uint64pow10" .u64 pow10Tab) : ItSays P (ρ.f 246) #[.int .i64 n, .int .i64 10] n w := by
  by_cases hneg : n < 0
  · obtain ⟨u, rfl⟩ : ∃ u : Nat, n = -(u : Int) := ⟨n.natAbs, by omega⟩
    exact it_neg L u (by omega) (by omega) w htab
  · obtain ⟨u, rfl⟩ : ∃ u : Nat, n = u := ⟨n.toNat, by omega⟩
    by_cases hs : u < 100
    · exact it_small L u hs w
    · exact it_pos L u (by omega) (by omega) w htab
set_option maxRecDepth 100000 in
theorem it_inner (L : ItLays P ρ) (n : Int) (h0 : -9223372036854775808 ≤ n) (h1 : n ≤ 9223372036854775807) (w : World) (htab : TabIs P w "internal/strconv.uint64pow10" .u64 pow10Tab) : ItSays P (ρ.f 243) #[.int .i64 n] n w := by
  have hf := it_format L n h0 h1
  unfold ItSays at hf ⊢
  have mixed := L.mixed
  have t2 := L.t2; have a2 := L.a2; have z2 := L.z2; have v2 := L.v2
  have t3 := L.t3; have a3 := L.a3; have z3 := L.z3; have v3 := L.v3
  have t9 := L.t9; have a9 := L.a9; have z9 := L.z9; have v9 := L.v9
  have e246 : ∀ args w, (callFunc (ρ.f 246) args).run P w = .ok (.enter (ρ.f 246) args) w := enters_of L.f246 (by kernel_rfl) rfl
  go_enter L.f243, Body.n243_ntmps ρ
  go_wp2_with (go_at_fn (ρ.f 246); refine (hf _ htab).mono ?_; rintro e w' ⟨rfl, k, os, rfl⟩)
  go_ret
  exact ⟨rfl, k, os, rfl⟩
set_option maxRecDepth 100000 in
/-- **strconv.Itoa at any int, where formatBits is a wall.** -/
theorem it_itoa (L : ItLays P ρ) (n : Int) (h0 : -9223372036854775808 ≤ n) (h1 : n ≤ 9223372036854775807) (w : World) (htab : TabIs P w "internal/strconv.uint64pow10" .u64 pow10Tab) : ItSays P (ρ.f 171) #[.int .i64 n] n w := by
  have hf := it_inner L n h0 h1
  unfold ItSays at hf ⊢
  have mixed := L.mixed
  have t3 := L.t3; have a3 := L.a3; have z3 := L.z3; have v3 := L.v3
  have t9 := L.t9; have a9 := L.a9; have z9 := L.z9; have v9 := L.v9
  have e243 : ∀ args w, (callFunc (ρ.f 243) args).run P w = .ok (.enter (ρ.f 243) args) w := enters_of L.f243 (by kernel_rfl) rfl
  go_enter L.f171, Body.n171_ntmps ρ
  go_wp2_with (go_at_fn (ρ.f 243); refine (hf _ htab).mono ?_; rintro e w' ⟨rfl, k, os, rfl⟩)
  go_ret
  exact ⟨rfl, k, os, rfl⟩
end Go.Sk
