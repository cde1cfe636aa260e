/- Part of the proof that the law CheckRecursion answers true: the law itself, and the tied card. No condition. -/
import Derived.Test.YtcgdnhkibjldjaaGreatDoorTie
import Derived.Test.YtcgdnhkibjldjaaGreatDoorCards
import Derived.Test.YtcgdnhkibjldjaaGreatDoorCheckRecursionY
import Derived.Test.YtcgdnhkibjldjaaGreatDoorCheckRecursionC0
import Derived.Test.YtcgdnhkibjldjaaGreatDoorCheckRecursionC1
import Derived.Test.YtcgdnhkibjldjaaGreatDoorCheckRecursionC2
import Derived.Test.YtcgdnhkibjldjaaGreatDoorCheckRecursionC3
import Derived.Test.YtcgdnhkibjldjaaGreatDoorCheckRecursionC4
import Derived.Test.YtcgdnhkibjldjaaGreatDoorCheckRecursionC5
import Derived.Test.YtcgdnhkibjldjaaGreatDoorCheckRecursionC6
import Derived.Test.YtcgdnhkibjldjaaGreatDoorCheckRecursionC7
import Derived.Test.YtcgdnhkibjldjaaGreatDoorCheckRecursionZ14C
import Derived.Test.YtcgdnhkibjldjaaGreatDoorCheckRecursionZ14Y
import Derived.Test.YtcgdnhkibjldjaaGreatDoorCheckRecursionZ15C
import Derived.Test.YtcgdnhkibjldjaaGreatDoorCheckRecursionZ15Y
import Derived.Test.YtcgdnhkibjldjaaGreatDoorCheckRecursionZ16C
import Derived.Test.YtcgdnhkibjldjaaGreatDoorCheckRecursionZ16Y
import Derived.Test.YtcgdnhkibjldjaaGreatDoorCheckRecursionZ17C
import Derived.Test.YtcgdnhkibjldjaaGreatDoorCheckRecursionZ17Y
import Derived.Test.YtcgdnhkibjldjaaGreatDoorCheckRecursionZ18C
import Derived.Test.YtcgdnhkibjldjaaGreatDoorCheckRecursionZ18Y
import Derived.Test.YtcgdnhkibjldjaaGreatDoorCheckRecursionZ19C
import Derived.Test.YtcgdnhkibjldjaaGreatDoorCheckRecursionZ19Y
namespace Go.Proofs.YtcgdnhkibjldjaaGreatDoor
open Go Go.Sh Go.ChangeShapes Go.WideShapes Go.ChangeAt Go.RowKit
theorem cr_row (n : Nat) (u : Bool) (ρ0 : Rho) (n0 : Nat) (h0 : ∀ b, 4 ≤ b → ρ0 b = none) : letI := opqByte n; KRowOk (LaidI (rowHp .e crBs) ρ0 n0) Tryz.prog 3 ⟨4, [.opq 200, .bool u], [], .bool true, none⟩ := by
  letI := opqByte n
  have go : ∀ (k : Nat) (X : FuncId → Option XK), n % 20 = k → XOk (LaidI (rowHp .e crBs) ρ0 n0) Tryz.prog X →
      (ev (crEk k) X Tryz.prog 4001).f.f 3 [.opq 200, .bool u] ⟨crHp .e crBs, 4, big⟩ (rowEnd ⟨4, [.opq 200, .bool u], [], .bool true, none⟩) (fun _ _ => false) = true →
      KRowOk (LaidI (rowHp .e crBs) ρ0 n0) Tryz.prog 3 ⟨4, [.opq 200, .bool u], [], .bool true, none⟩ := fun k X hk hX h =>
    krow_of_ev (E := crEk k) (X := X) (m := 4000) (by kernel_rfl) ⟨crEk_ok n k hk⟩ hX (LaidI.ki rowHp_ro) rfl rfl (by kernel_rfl) (by rw [← crHp_eq]; exact h)
  have hk : n % 20 < 20 := Nat.mod_lt _ (by decide)
  match hm : n % 20, u, hk with
  | 0, true, _ => exact go _ _ hm (crY_ok n0 h0) cr_0_true
  | 0, false, _ => exact go _ _ hm (crY_ok n0 h0) cr_0_false
  | 1, true, _ => exact go _ _ hm (crY_ok n0 h0) cr_1_true
  | 1, false, _ => exact go _ _ hm (crY_ok n0 h0) cr_1_false
  | 2, true, _ => exact go _ _ hm (crY_ok n0 h0) cr_2_true
  | 2, false, _ => exact go _ _ hm (crY_ok n0 h0) cr_2_false
  | 3, true, _ => exact go _ _ hm (crY_ok n0 h0) cr_3_true
  | 3, false, _ => exact go _ _ hm (crY_ok n0 h0) cr_3_false
  | 4, true, _ => exact go _ _ hm (crY_ok n0 h0) cr_4_true
  | 4, false, _ => exact go _ _ hm (crY_ok n0 h0) cr_4_false
  | 5, true, _ => exact go _ _ hm (crY_ok n0 h0) cr_5_true
  | 5, false, _ => exact go _ _ hm (crY_ok n0 h0) cr_5_false
  | 6, true, _ => exact go _ _ hm (crY_ok n0 h0) cr_6_true
  | 6, false, _ => exact go _ _ hm (crY_ok n0 h0) cr_6_false
  | 7, true, _ => exact go _ _ hm (crY_ok n0 h0) cr_7_true
  | 7, false, _ => exact go _ _ hm (crY_ok n0 h0) cr_7_false
  | 8, true, _ => exact go _ _ hm (crY_ok n0 h0) cr_8_true
  | 8, false, _ => exact go _ _ hm (crY_ok n0 h0) cr_8_false
  | 9, true, _ => exact go _ _ hm (crY_ok n0 h0) cr_9_true
  | 9, false, _ => exact go _ _ hm (crY_ok n0 h0) cr_9_false
  | 10, true, _ => exact go _ _ hm (crY_ok n0 h0) cr_10_true
  | 10, false, _ => exact go _ _ hm (crY_ok n0 h0) cr_10_false
  | 11, true, _ => exact go _ _ hm (crY_ok n0 h0) cr_11_true
  | 11, false, _ => exact go _ _ hm (crY_ok n0 h0) cr_11_false
  | 12, true, _ => exact go _ _ hm (crY_ok n0 h0) cr_12_true
  | 12, false, _ => exact go _ _ hm (crY_ok n0 h0) cr_12_false
  | 13, true, _ => exact go _ _ hm (crY_ok n0 h0) cr_13_true
  | 13, false, _ => exact go _ _ hm (crY_ok n0 h0) cr_13_false
  | 14, true, _ => exact go _ _ hm (crZ14_ok n0 h0) cr_14_true
  | 14, false, _ => exact go _ _ hm (crY_ok n0 h0) cr_14_false
  | 15, true, _ => exact go _ _ hm (crZ15_ok n0 h0) cr_15_true
  | 15, false, _ => exact go _ _ hm (crY_ok n0 h0) cr_15_false
  | 16, true, _ => exact go _ _ hm (crZ16_ok n0 h0) cr_16_true
  | 16, false, _ => exact go _ _ hm (crY_ok n0 h0) cr_16_false
  | 17, true, _ => exact go _ _ hm (crZ17_ok n0 h0) cr_17_true
  | 17, false, _ => exact go _ _ hm (crY_ok n0 h0) cr_17_false
  | 18, true, _ => exact go _ _ hm (crZ18_ok n0 h0) cr_18_true
  | 18, false, _ => exact go _ _ hm (crY_ok n0 h0) cr_18_false
  | 19, true, _ => exact go _ _ hm (crW19_ok n0 h0) cr_19_true
  | 19, false, _ => exact go _ _ hm (crY_ok n0 h0) cr_19_false
  | k + 20, _, hk => exact absurd hk (by omega)
theorem cr_calls {W : World} (hsh : W.ShapedOpen Tryz.prog) (hL : laidMetH Tryz.prog Rows.checkRecursionRow.laid W) (n : Nat) (u : Bool) : Calls Tryz.prog 3 #[.int .u8 n, .bool u] W (fun e w' => e = .returned (.bool true) ∧ RowKit.Below W.heap.size W w') := by
  letI := opqByte n
  rw [MakeChecks.laidMetH_plain _ _ _ (by kernel_rfl)] at hL
  refine calls_args (bs := crBs) (vs := [.int .u8 n, .bool u]) (by kernel_rfl) (show ∀ ρ : Rho, VRs ρ [.opq 200, .bool u] [.int .u8 n, .bool u] from fun ρ => VRs.cons rfl (VRs.cons (by simp [VR]) VRs.nil)) (cr_row n u) ?_ (by kernel_rfl) hsh hL
  intro x hx
  rcases List.mem_cons.1 hx with rfl | hx
  · exact ⟨by decide, "chisel/expr.tests", Rows.laid_chisel_expr_tests, 237, 6, by simp [Rows.checkRecursionRow], by kernel_rfl, by kernel_rfl, by kernel_rfl⟩
  rcases List.mem_cons.1 hx with rfl | hx
  · exact ⟨by decide, "unicode/utf8.acceptRanges", Rows.laid_unicode_utf8_acceptRanges, 288, 6, by simp [Rows.checkRecursionRow], by kernel_rfl, by kernel_rfl, by kernel_rfl⟩
  cases hx
theorem cr_bool {H : Type} {enc : TypeId × Value → H} {P : Program} {W : World} {base : Nat} {spare : Nat → Bool} {held : Bool} {r : Reach} {b0 : Nat} {t : TypeId} {v : Value} {d : DataW H} {ps : List MemPlace} (ht : P.underlying t = some .bool) (hval : Value.okWide P W r b0 t v) (hd : DataW.Trod enc P W base spare held t v d ps) : ∃ b, v = .bool b ∧ d = .lit (.bool b) ∧ ps = [] := by
  obtain ⟨b, rfl⟩ := okWide_bool ht hval
  obtain ⟨fuel, hf⟩ := hd
  cases fuel with
  | zero => simp [DataW.trod] at hf
  | succ m =>
    simp [DataW.trod, Value.cells, ht] at hf
    exact ⟨b, rfl, hf.1.symm, hf.2⟩
theorem cr_byte {n : Int} (h : (Lit.int .u8 n).wf = true) : ∃ m : Nat, m < 256 ∧ n = m := by
  have h1 : IntKind.u8.min = 0 := rfl
  have h2 : IntKind.u8.max = 255 := rfl
  simp [Lit.wf, h1, h2] at h
  exact ⟨n.toNat, by omega, by omega⟩
theorem cr_own : ownKnob Tryz.prog.godebug = none := by kernel_rfl
set_option maxRecDepth 100000 in
theorem cr_lifted (os : Os) (started : os.Started) (H : Type) (enc : TypeId × Value → H) :
    ReturnsInHanded {} Tryz.checked os 3 .any (fun w args => (Rows.checkRecursionSpec.pre enc Tryz.prog Tryz.f3 [] false w args ∧ laidMetH Tryz.prog Rows.checkRecursionRow.laid w) ∧ sizedMet enc Tryz.prog Tryz.f3 (OpenSpec.ofChange Rows.checkRecursionSpec) false w args)
      (Rows.checkRecursionSpec.post enc Tryz.prog Tryz.f3 false true false false) := by
  letI : Opq := opqNone
  refine args_lifted (C := Tryz.checked) (t := 4) os started H enc cr_own (by kernel_rfl) Tryz.func3 (by kernel_rfl) Tryz.underlying4 rfl (fun K ds hl => ?_)
    (ChangeSpec.witness_shaped (enc := enc) (C := Tryz.checked) (os := os) (X := fun w _ => laidMetH Tryz.prog Rows.checkRecursionRow.laid w) false (World.laidAll Tryz.prog os Rows.checkRecursionRow.laid) #[.int .u8 0, .bool false] 8 (World.laidAll_os _ _ _)
      (World.shaped_of_ZipB (by kernel_rfl) (by kernel_rfl)) (by kernel_rfl) (by kernel_rfl) (by kernel_rfl)
      (by rw [MakeChecks.laidMetH_plain _ _ _ (by kernel_rfl)]; exact laidMet_laidAll _ (by kernel_rfl) (by kernel_rfl))) ?_
  · rw [show Tryz.f3.params = #[5, 4] from Tryz.params3] at hl
    match ds, hl with
    | [d1, d2], _ => rfl
  · intro W base args ds p hsh hx hval0 hA0 _
    have hval : ∀ (j : Nat) t v, Tryz.f3.params[j]? = some t → args[j]? = some v → Value.okWide Tryz.prog W .any base t v := hval0
    have hA : DataW.TrodAll enc Tryz.prog W 0 (fun _ => true) true Tryz.f3.params.toList args.toList ds p := hA0
    show Calls Tryz.prog 3 args W (fun e w' => e = .returned (.bool true) ∧ RowKit.Below W.heap.size W w' ∧ ∃ p', DataW.TrodAll enc Tryz.prog w' 0 (fun b => decide (b < W.heap.size)) true Tryz.f3.params.toList args.toList ds p')
    rw [Tryz.params3] at hA hval ⊢
    obtain ⟨v0, vs0, d0, ds0, p0, q0, hargs, rfl, rfl, h0, r0⟩ := trodAll_cons hA
    obtain ⟨v1, vs1, d1, ds1, p1, q1, rfl, rfl, rfl, h1, r1⟩ := trodAll_cons r0
    obtain ⟨rfl, rfl, rfl⟩ := trodAll_nil r1
    obtain rfl : args = #[v0, v1] := by cases args; simp_all
    obtain ⟨a0, rfl, rfl, rfl, w0⟩ := open_int Tryz.underlying5 (hval 0 5 v0 rfl rfl) h0
    obtain ⟨a1, rfl, rfl, rfl⟩ := cr_bool Tryz.underlying4 (hval 1 4 v1 rfl rfl) h1
    obtain ⟨n, hn, rfl⟩ : ∃ n : Nat, n < 256 ∧ a0 = n := cr_byte w0
    refine (cr_calls hsh hx n a1).mono fun e W' ⟨he, bel⟩ => ?_
    exact ⟨he, bel, _, trodAll_cons_mk (shut_int Tryz.underlying5 w0) (trodAll_cons_mk (shut_bool Tryz.underlying4 a1) trodAll_mk0)⟩
theorem cr_holds : Rows.CheckRecursionSaid :=
  OpenClaim.holds_of_wide 3 Tryz.f3 rfl rfl rfl rfl rfl rfl rfl ⟨rfl, rfl, rfl, rfl, rfl⟩ rfl rfl rfl rfl rfl (by kernel_rfl) Tryz.func3 (by kernel_rfl)
    (of_decide_eq_true (by kernel_rfl)) (by unfold Func.isWrapper; first | (rw [if_pos (by decide +kernel)]; kernel_rfl) | (rw [if_neg (by decide +kernel)]; exact ⟨rfl, rfl⟩))
    (fun os started H enc _ => cr_lifted os started H enc)
theorem checkRecursion_card : Rows.CheckRecursionCardSaid :=
  Claim7.holds_tied_plain_at .later [] [.data, .widerDeep, .pinned] true (true, "20c612c25b6577212e4fa85313d7b9b18718102326a11c8a7ea62895707fbe41") true
    cr_holds (fun _ h => by cases h) (by kernel_rfl) (fun _ h => by cases h) checkRecursion_row_tie rfl ⟨rfl, rfl⟩ (by kernel_rfl) rfl
    (fun f fn hf hfn => by
      obtain rfl : f = 3 := Option.some.inj ((show Tryz.prog.funcNamed "chisel/chisellaw25.CheckRecursion" = some 3 by kernel_rfl).symm.trans hf) |>.symm
      obtain rfl : fn = Tryz.f3 := (Option.some.inj (Tryz.func3.symm.trans hfn)).symm
      exact ⟨by kernel_rfl, fun j t ht => by
        rw [show Tryz.f3.params = #[5, 4] from Tryz.params3] at ht
        have h : t = 5 ∨ t = 4 := by
          match j, ht with
          | 0, ht => exact .inl (by simpa using ht.symm)
          | 1, ht => exact .inr (by simpa using ht.symm)
          | j + 2, ht => simp at ht
        rcases h with rfl | rfl
        · show Tryz.prog.wantsStandIn 5 = false
          kernel_rfl
        · show Tryz.prog.wantsStandIn 4 = false
          kernel_rfl⟩)
    (by kernel_rfl)
#print axioms checkRecursion_card
end Go.Proofs.YtcgdnhkibjldjaaGreatDoor
