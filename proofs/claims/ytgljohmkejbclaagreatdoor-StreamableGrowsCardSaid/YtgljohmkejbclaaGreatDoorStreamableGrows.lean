/- The law StreamableGrows answers true, and its tied card. No condition. -/
import Derived.Test.YtgljohmkejbclaaGreatDoorTie
import Derived.Test.YtgljohmkejbclaaGreatDoorCards
import Derived.Test.YtgljohmkejbclaaGreatDoorStreamableGrowsWk
import Derived.Test.YtgljohmkejbclaaGreatDoorSbPure
import Derived.Carry
namespace Go.Proofs.YtgljohmkejbclaaGreatDoor
open Go Go.Sh Go.ChangeShapes Go.WideShapes Go.ChangeAt Go.RowKit
open Go.Proofs.YtgljohmkejbclaaGreatDoor.PStreamableGrows
open Go.Proofs.YtgljohmkejbclaaGreatDoorW.PrintWords
theorem cells24 : Tryz.prog.cellsOf 24 = 2 := by kernel_rfl
theorem cells9 : Tryz.prog.cellsOf 9 = 1 := by kernel_rfl
theorem cells3 : Tryz.prog.cellsOf 3 = 1 := by kernel_rfl
theorem laidOut : laidOutB Tryz.prog = true := by kernel_rfl
theorem add_none (a : Addr) : a.add 0 = a := by simp [Addr.add]
theorem add_one (a : Addr) (n : Nat) : (a.add n).add 1 = a.add (n + 1) := by
  by_cases h : n = 0
  · subst h; simp [Addr.add]
  · simp [Addr.add, h, Nat.add_assoc]
theorem two_of {α : Type} {l : List α} (h : l.length = 2) : ∃ a b, l = [a, b] := by
  match l, h with
  | [a, b], _ => exact ⟨a, b, rfl⟩
section
variable {H : Type} {enc : TypeId × Value → H} {W : World} {b : Nat} {sp : Nat → Bool} {hd : Bool}
/-- a report, out of its reading -/
theorem open_report {fuel : Nat} {cs : List Value} {x : DataW H × List MemPlace} (h : DataW.trod enc Tryz.prog W b sp hd fuel 24 cs = some x) : ∃ s : S24, cs = [.string s.f0, .int .i64 s.f1] := by
  obtain ⟨xs, n, rfl, _, hl, hxs, hf⟩ := DataW.trod_struct Tryz.underlying24 h
  rw [cells24] at hl
  have h0 : DataW.trod enc Tryz.prog W b sp hd n 9 ((cs.drop 0).take (Tryz.prog.cellsOf 9)) = xs[0]? := hf 0 _ rfl
  have h1 : DataW.trod enc Tryz.prog W b sp hd n 3 ((cs.drop 1).take (Tryz.prog.cellsOf 3)) = xs[1]? := hf 1 _ rfl
  rw [cells9] at h0
  rw [cells3] at h1
  obtain ⟨c0, c1, rfl⟩ := two_of hl
  simp only [List.drop_zero, List.take_succ_cons, List.take_zero] at h0
  simp only [List.drop_succ_cons, List.drop_zero, List.take_succ_cons, List.take_zero] at h1
  have hx : xs.length = 2 := hxs
  rw [List.getElem?_eq_getElem (by omega)] at h0
  rw [List.getElem?_eq_getElem (by omega)] at h1
  obtain ⟨s, e0, _, _⟩ := DataW.trod_string Tryz.underlying9 h0
  obtain ⟨z, e1, _, _⟩ := DataW.trod_int Tryz.underlying3 h1
  simp only [List.cons.injEq, and_true] at e0 e1
  exact ⟨⟨s, z⟩, by rw [e0, e1]⟩
/-- a list of reports, out of its reading -/
theorem open_reports {A : Option Addr} {len cap : Nat} {d : DataW H} {p : List MemPlace} (h : DataW.Trod enc Tryz.prog W b sp hd 22 (.slice A len cap) d p) :
    ∃ l : List S24, l.length = len ∧ Kd.C k24 W A l.length l ∧ len ≤ cap := by
  obtain ⟨fuel, hf⟩ := h
  rcases DataW.trod_slice Tryz.underlying22 hf with ⟨hcs, _⟩ | ⟨a, len', cap', elems, rest, n, _, hcs, _, _, hl, hm, hlen, hel, _⟩
  · simp [Value.cells] at hcs
    obtain ⟨rfl, rfl, rfl⟩ := hcs
    exact ⟨[], rfl, ⟨rfl, by simp, fun h => by simp at h⟩, Nat.le_refl _⟩
  · simp [Value.cells] at hcs
    obtain ⟨rfl, rfl, rfl⟩ := hcs
    have hx : ∀ i : Fin len, ∃ s : S24, W.cell? (a.add (i.1 * 2)) = some (.string s.f0) ∧ W.cell? (a.add (i.1 * 2 + 1)) = some (.int .i64 s.f1) := fun i => by
      have h1 := hel i.1 i.2
      rw [List.getElem?_eq_getElem (by omega), cells24] at h1
      rw [Option.bind_eq_some_iff] at h1
      obtain ⟨cs, hc, ht⟩ := h1
      obtain ⟨s, rfl⟩ := open_report ht
      refine ⟨s, ?_⟩
      unfold World.cells? at hc
      split at hc
      · simp only [List.range_succ, List.range_zero, List.nil_append, List.cons_append, List.mapM_cons, List.mapM_nil] at hc
        rw [Option.bind_eq_bind, Option.bind_eq_some_iff] at hc
        obtain ⟨c0, h0, hc⟩ := hc
        rw [Option.bind_eq_bind, Option.bind_eq_some_iff] at hc
        obtain ⟨c1, h1, hc⟩ := hc
        rw [Option.bind_eq_some_iff] at h1
        obtain ⟨c2, h2, h1⟩ := h1
        simp at h1 hc
        subst h1
        simp at hc
        obtain ⟨rfl, rfl⟩ := hc
        refine ⟨?_, ?_⟩
        · rw [← h0, add_none]
        · rw [← h2, add_one]
      · cases hc
    obtain ⟨g, hg⟩ := Classical.axiomOfChoice hx
    refine ⟨List.ofFn g, by simp, ⟨rfl, ?_, fun _ => ⟨a, rfl, fun j q hj => ?_⟩⟩, hl⟩
    · have : maxLen ≤ 9223372036854775807 := by decide
      simp; omega
    · obtain ⟨hj', rfl⟩ := List.getElem?_eq_some_iff.1 hj
      have hjl : j < len := by simpa using hj'
      simp only [List.getElem_ofFn]
      obtain ⟨q0, q1⟩ := hg ⟨j, hjl⟩
      refine ⟨[.string (g ⟨j, hjl⟩).f0, .int .i64 (g ⟨j, hjl⟩).f1], rfl, k24_mk W _, fun i u hu => ?_⟩
      match i, hu with
      | 0, hu => simp at hu; subst hu; exact q0
      | 1, hu => simp at hu; subst hu; exact q1
end
theorem streamableGrows_own : ownKnob Tryz.prog.godebug = none := by kernel_rfl
set_option maxRecDepth 100000 in
theorem streamableGrows_lifted (os : Os) (started : os.Started) (H : Type) (enc : TypeId × Value → H) :
    ReturnsInHanded {} Tryz.checked os 3 .any (fun w args => (Rows.streamableGrowsSpec.pre enc Tryz.prog Tryz.f3 [] false w args ∧ laidMetH Tryz.prog Rows.streamableGrowsRow.laid w) ∧ sizedMet enc Tryz.prog Tryz.f3 (OpenSpec.ofChange Rows.streamableGrowsSpec) false w args)
      (Rows.streamableGrowsSpec.post enc Tryz.prog Tryz.f3 false true false false) := by
  refine args_lifted (C := Tryz.checked) (t := 4) os started H enc streamableGrows_own (by kernel_rfl) Tryz.func3 (by kernel_rfl) Tryz.underlying4 rfl (fun K ds hl => ?_)
    (ChangeSpec.witness_shaped (enc := enc) (C := Tryz.checked) (os := os) (X := fun w _ => laidMetH Tryz.prog Rows.streamableGrowsRow.laid w) false (World.laidAll Tryz.prog os Rows.streamableGrowsRow.laid) #[.slice none 0 0, .agg #[.string .empty, .int .i64 0], .int .i64 0, .int .i64 0, .int .i64 0, .int .i64 0] 8 (World.laidAll_os _ _ _)
      (World.shaped_of_ZipB (by kernel_rfl) (by kernel_rfl)) (by kernel_rfl) (by kernel_rfl) (by kernel_rfl)
      (by rw [MakeChecks.laidMetH_plain _ _ _ (by kernel_rfl)]; exact laidMet_laidAll _ (by kernel_rfl) (by kernel_rfl))) ?_
  · rw [show Tryz.f3.params = #[22, 24, 3, 3, 3, 3] from Tryz.params3] at hl
    match ds, hl with
    | [d1, d2, d3, d4, d5, d6], _ => rfl
  · intro W base args ds p hsh hx hval0 hA0 _
    have hval : ∀ (j : Nat) t v, Tryz.f3.params[j]? = some t → args[j]? = some v → Value.okWide Tryz.prog W .any base t v := hval0
    have hA : DataW.TrodAll enc Tryz.prog W 0 (fun _ => true) true Tryz.f3.params.toList args.toList ds p := hA0
    show Calls Tryz.prog 3 args W (fun e w' => e = .returned (.bool true) ∧ RowKit.Below W.heap.size W w' ∧ ∃ p', DataW.TrodAll enc Tryz.prog w' 0 (fun b => decide (b < W.heap.size)) true Tryz.f3.params.toList args.toList ds p')
    rw [Tryz.params3] at hA hval ⊢
    obtain ⟨v0, vs0, d0, ds0, p0, q0, hargs, rfl, rfl, h0, r0⟩ := trodAll_cons hA
    obtain ⟨v1, vs1, d1, ds1, p1, q1, rfl, rfl, rfl, h1, r1⟩ := trodAll_cons r0
    obtain ⟨v2, vs2, d2, ds2, p2, q2, rfl, rfl, rfl, h2, r2⟩ := trodAll_cons r1
    obtain ⟨v3, vs3, d3, ds3, p3, q3, rfl, rfl, rfl, h3, r3⟩ := trodAll_cons r2
    obtain ⟨v4, vs4, d4, ds4, p4, q4, rfl, rfl, rfl, h4, r4⟩ := trodAll_cons r3
    obtain ⟨v5, vs5, d5, ds5, p5, q5, rfl, rfl, rfl, h5, r5⟩ := trodAll_cons r4
    obtain ⟨rfl, rfl, rfl⟩ := trodAll_nil r5
    obtain rfl : args = #[v0, v1, v2, v3, v4, v5] := by cases args; simp_all
    obtain ⟨a0, len0, cap0, rfl⟩ := okWide_slice Tryz.underlying22 (hval 0 22 v0 rfl rfl)
    have k0 := h0
    have lt0 : ∀ x ∈ p0, x.block < W.heap.size := by obtain ⟨m, hm⟩ := k0; exact DataW.trod_lt m _ _ _ hm
    obtain ⟨l0, hlen, hC, hcap⟩ := open_reports h0
    subst hlen
    obtain ⟨cs1, rfl, _⟩ := okWide_struct Tryz.underlying24 (hval 1 24 v1 rfl rfl)
    have k1 := h1
    have lt1 : ∀ x ∈ p1, x.block < W.heap.size := by obtain ⟨m, hm⟩ := k1; exact DataW.trod_lt m _ _ _ hm
    obtain ⟨s1, hs1⟩ : ∃ s : S24, cs1.toList = [.string s.f0, .int .i64 s.f1] := by
      obtain ⟨m, hm⟩ := h1
      exact open_report hm
    obtain rfl : cs1 = #[.string s1.f0, .int .i64 s1.f1] := by apply Array.ext'; simpa using hs1
    obtain ⟨a2, rfl, rfl, rfl, w2⟩ := open_int Tryz.underlying3 (hval 2 3 v2 rfl rfl) h2
    obtain ⟨a3, rfl, rfl, rfl, w3⟩ := open_int Tryz.underlying3 (hval 3 3 v3 rfl rfl) h3
    obtain ⟨a4, rfl, rfl, rfl, w4⟩ := open_int Tryz.underlying3 (hval 4 3 v4 rfl rfl) h4
    obtain ⟨a5, rfl, rfl, rfl, w5⟩ := open_int Tryz.underlying3 (hval 5 3 v5 rfl rfl) h5
    obtain ⟨k, hk⟩ := PStreamableGrows.pure l0 s1.f0 s1.f1 a2 a3 a4 a5
    refine (chisellaw37_StreamableGrows.calls k a0 cap0 l0 s1.f0 s1.f1 a2 a3 a4 a5 true W hC hcap (fun w1 hB => streamableGrows_at hsh hx hB) hk).mono fun e W' ⟨he, bel⟩ => ?_
    exact ⟨he, bel, _, trodAll_cons_mk (Below.trod laidOut (by kernel_rfl) (of_decide_eq_true (by kernel_rfl)) k0 bel lt0) (trodAll_cons_mk (Below.trod laidOut (by kernel_rfl) (of_decide_eq_true (by kernel_rfl)) k1 bel lt1) (trodAll_cons_mk (shut_int Tryz.underlying3 w2) (trodAll_cons_mk (shut_int Tryz.underlying3 w3) (trodAll_cons_mk (shut_int Tryz.underlying3 w4) (trodAll_cons_mk (shut_int Tryz.underlying3 w5) trodAll_mk0)))))⟩
theorem streamableGrows_holds : Rows.StreamableGrowsSaid :=
  OpenClaim.holds_of_wide 3 Tryz.f3 rfl rfl rfl rfl rfl rfl rfl ⟨rfl, rfl, rfl, rfl, rfl⟩ rfl rfl rfl rfl rfl (by kernel_rfl) Tryz.func3 (by kernel_rfl)
    (of_decide_eq_true (by kernel_rfl)) (by unfold Func.isWrapper; first | (rw [if_pos (by decide +kernel)]; kernel_rfl) | (rw [if_neg (by decide +kernel)]; exact ⟨rfl, rfl⟩))
    (fun os started H enc _ => streamableGrows_lifted os started H enc)
theorem streamableGrows_card : Rows.StreamableGrowsCardSaid :=
  Claim7.holds_tied_plain_at .later [] [.widerDeep, .wider, .data] true (true, "63e08c77393c74fe59b8049b1c2c7c94537cd4285cd0c243df6de06c219d4060") true
    streamableGrows_holds (fun _ h => by cases h) (by kernel_rfl) (fun _ h => by cases h) streamableGrows_row_tie rfl ⟨rfl, rfl⟩ (by kernel_rfl) rfl
    (fun f fn hf hfn => by
      obtain rfl : f = 3 := Option.some.inj ((show Tryz.prog.funcNamed "chisel/chisellaw37.StreamableGrows" = some 3 by kernel_rfl).symm.trans hf) |>.symm
      obtain rfl : fn = Tryz.f3 := (Option.some.inj (Tryz.func3.symm.trans hfn)).symm
      exact ⟨by kernel_rfl, fun j t ht => by
        rw [show Tryz.f3.params = #[22, 24, 3, 3, 3, 3] from Tryz.params3] at ht
        have h : t = 22 ∨ t = 24 ∨ t = 3 := by
          match j, ht with
          | 0, ht => exact .inl (by simpa using ht.symm)
          | 1, ht => exact .inr (.inl (by simpa using ht.symm))
          | 2, ht => exact .inr (.inr (by simpa using ht.symm))
          | 3, ht => exact .inr (.inr (by simpa using ht.symm))
          | 4, ht => exact .inr (.inr (by simpa using ht.symm))
          | 5, ht => exact .inr (.inr (by simpa using ht.symm))
          | j + 6, ht => simp at ht
        rcases h with rfl | rfl | rfl
        · show Tryz.prog.wantsStandIn 22 = false
          kernel_rfl
        · show Tryz.prog.wantsStandIn 24 = false
          kernel_rfl
        · show Tryz.prog.wantsStandIn 3 = false
          kernel_rfl⟩)
    (by kernel_rfl)
#print axioms streamableGrows_card
end Go.Proofs.YtgljohmkejbclaaGreatDoor
