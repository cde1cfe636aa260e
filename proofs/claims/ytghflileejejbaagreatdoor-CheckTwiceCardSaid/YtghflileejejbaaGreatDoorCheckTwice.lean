/- Part of the proof that the law CheckTwice answers true: the evaluations, the law itself, and the tied card. No condition. -/
import Derived.Test.YtghflileejejbaaGreatDoorTie
import Derived.Test.YtghflileejejbaaGreatDoorCards
import Derived.Test.YtghflileejejbaaGreatDoorCheckTwiceR0
import Derived.ChangeMaps5
namespace Go.Proofs.YtghflileejejbaaGreatDoor
open Go Go.Sh Go.ChangeShapes Go.WideShapes Go.ChangeAt Go.RowKit Go.ChangeMaps
/-- the externs, and the calls that are known -/
def ctY (f : Nat) : Option XK := cond (Nat.beq f 4) (some (.known [ctR0])) (cond (Nat.beq f 34) (some (.known [ctR1, ctR2])) (cond (Nat.beq f 67) (some (.known [ctR3])) (ctX f)))
theorem ctY_at {f : Nat} {k : XK} (h : ctY f = some k) : (f = 4 ∧ k = .known [ctR0]) ∨ (f = 34 ∧ k = .known [ctR1, ctR2]) ∨ (f = 67 ∧ k = .known [ctR3]) ∨ ctX f = some k := by
  unfold ctY at h
  cases hb0 : Nat.beq f 4 with
  | true => rw [hb0, cond_true] at h; cases h; exact .inl ⟨Nat.eq_of_beq_eq_true hb0, rfl⟩
  | false =>
  rw [hb0, cond_false] at h
  cases hb1 : Nat.beq f 34 with
  | true => rw [hb1, cond_true] at h; cases h; exact .inr (.inl ⟨Nat.eq_of_beq_eq_true hb1, rfl⟩)
  | false =>
  rw [hb1, cond_false] at h
  cases hb2 : Nat.beq f 67 with
  | true => rw [hb2, cond_true] at h; cases h; exact .inr (.inr (.inl ⟨Nat.eq_of_beq_eq_true hb2, rfl⟩))
  | false =>
  rw [hb2, cond_false] at h
  exact .inr (.inr (.inr h))
theorem ctY_ok [Opq] {ρ0 : Rho} (n0 : Nat) (h0 : ∀ b, 4 ≤ b → ρ0 b = none) : XOk (LaidI (rowHp .e ctBs) ρ0 n0) Tryz.prog ctY where
  ext f k h hk := by
    rcases ctY_at h with ⟨rfl, rfl⟩ | ⟨rfl, rfl⟩ | ⟨rfl, rfl⟩ | h
    · cases hk
    · cases hk
    · cases hk
    · exact (ctX_ok _).ext f k h hk
  known f rows h := by
    rcases ctY_at h with ⟨rfl, h⟩ | ⟨rfl, h⟩ | ⟨rfl, h⟩ | h
    · cases h
      intro r hr
      simp only [List.mem_cons, List.not_mem_nil, or_false] at hr
      subst hr
      · exact ctR0_ok n0 h0
    · cases h
      intro r hr
      simp only [List.mem_cons, List.not_mem_nil, or_false] at hr
      rcases hr with rfl | rfl
      · exact ctR1_ok n0 h0
      · exact ctR2_ok n0 h0
    · cases h
      intro r hr
      simp only [List.mem_cons, List.not_mem_nil, or_false] at hr
      subst hr
      · exact ctR3_ok n0 h0
    · exact (ctX_ok _).known f rows h
theorem ct_empty_run (b : Bool) (k : Nat) : (ev (ctEk true b k) ctY Tryz.prog 1001).f.f 3 [.opq 0, .opq 200, .opq 201] ⟨rowHp .e ctBs, 4, big⟩ (rowEnd ⟨4, [.opq 0, .opq 200, .opq 201], [], .bool true, none⟩) (fun _ _ => false) = true := by kernel_rfl
theorem ct_long_run (k : Nat) : (ev (ctEk false true k) ctY Tryz.prog 1001).f.f 3 [.opq 0, .opq 200, .opq 201] ⟨rowHp .e ctBs, 4, big⟩ (rowEnd ⟨4, [.opq 0, .opq 200, .opq 201], [], .bool true, none⟩) (fun _ _ => false) = true := by kernel_rfl
theorem ct_0_run : (ev (ctEk false false 0) ctY Tryz.prog 1001).f.f 3 [.opq 0, .opq 200, .opq 201] ⟨rowHp .e ctBs, 4, big⟩ (rowEnd ⟨4, [.opq 0, .opq 200, .opq 201], [], .bool true, none⟩) (fun _ _ => false) = true := by kernel_rfl
theorem ct_1_run : (ev (ctEk false false 1) ctY Tryz.prog 1001).f.f 3 [.opq 0, .opq 200, .opq 201] ⟨rowHp .e ctBs, 4, big⟩ (rowEnd ⟨4, [.opq 0, .opq 200, .opq 201], [], .bool true, none⟩) (fun _ _ => false) = true := by kernel_rfl
theorem ct_2_run : (ev (ctEk false false 2) ctY Tryz.prog 1001).f.f 3 [.opq 0, .opq 200, .opq 201] ⟨rowHp .e ctBs, 4, big⟩ (rowEnd ⟨4, [.opq 0, .opq 200, .opq 201], [], .bool true, none⟩) (fun _ _ => false) = true := by kernel_rfl
theorem ct_3_run : (ev (ctEk false false 3) ctY Tryz.prog 1001).f.f 3 [.opq 0, .opq 200, .opq 201] ⟨rowHp .e ctBs, 4, big⟩ (rowEnd ⟨4, [.opq 0, .opq 200, .opq 201], [], .bool true, none⟩) (fun _ _ => false) = true := by kernel_rfl
theorem ct_4_run : (ev (ctEk false false 4) ctY Tryz.prog 1001).f.f 3 [.opq 0, .opq 200, .opq 201] ⟨rowHp .e ctBs, 4, big⟩ (rowEnd ⟨4, [.opq 0, .opq 200, .opq 201], [], .bool true, none⟩) (fun _ _ => false) = true := by kernel_rfl
theorem ct_5_run : (ev (ctEk false false 5) ctY Tryz.prog 1001).f.f 3 [.opq 0, .opq 200, .opq 201] ⟨rowHp .e ctBs, 4, big⟩ (rowEnd ⟨4, [.opq 0, .opq 200, .opq 201], [], .bool true, none⟩) (fun _ _ => false) = true := by kernel_rfl
theorem ct_6_run : (ev (ctEk false false 6) ctY Tryz.prog 1001).f.f 3 [.opq 0, .opq 200, .opq 201] ⟨rowHp .e ctBs, 4, big⟩ (rowEnd ⟨4, [.opq 0, .opq 200, .opq 201], [], .bool true, none⟩) (fun _ _ => false) = true := by kernel_rfl
theorem ct_7_run : (ev (ctEk false false 7) ctY Tryz.prog 1001).f.f 3 [.opq 0, .opq 200, .opq 201] ⟨rowHp .e ctBs, 4, big⟩ (rowEnd ⟨4, [.opq 0, .opq 200, .opq 201], [], .bool true, none⟩) (fun _ _ => false) = true := by kernel_rfl
theorem ct_8_run : (ev (ctEk false false 8) ctY Tryz.prog 1001).f.f 3 [.opq 0, .opq 200, .opq 201] ⟨rowHp .e ctBs, 4, big⟩ (rowEnd ⟨4, [.opq 0, .opq 200, .opq 201], [], .bool true, none⟩) (fun _ _ => false) = true := by kernel_rfl
theorem ct_row (s : ByteArray) (n : Nat) (l : Int) (ρ0 : Rho) (n0 : Nat) (h0 : ∀ b, 4 ≤ b → ρ0 b = none) : letI := opqTwice s n l; KRowOk (LaidI (rowHp .e ctBs) ρ0 n0) Tryz.prog 3 ⟨4, [.opq 0, .opq 200, .opq 201], [], .bool true, none⟩ := by
  letI := opqTwice s n l
  have go : ∀ (a b : Bool) (k : Nat), s.data.toList.isEmpty = a → decide (50 < s.size) = b → n % 9 = k → (ev (ctEk a b k) ctY Tryz.prog 1001).f.f 3 [.opq 0, .opq 200, .opq 201] ⟨rowHp .e ctBs, 4, big⟩ (rowEnd ⟨4, [.opq 0, .opq 200, .opq 201], [], .bool true, none⟩) (fun _ _ => false) = true →
      KRowOk (LaidI (rowHp .e ctBs) ρ0 n0) Tryz.prog 3 ⟨4, [.opq 0, .opq 200, .opq 201], [], .bool true, none⟩ := fun a b k ha hb hk h =>
    krow_of_ev (E := ctEk a b k) (X := ctY) (m := 1000) (by kernel_rfl) ⟨ctEk_ok s n l a b k ha hb hk⟩ (ctY_ok n0 h0) (LaidI.ki rowHp_ro) rfl rfl (by kernel_rfl) h
  cases ha : s.data.toList.isEmpty with
  | true => exact go _ _ _ ha rfl rfl (ct_empty_run _ _)
  | false =>
    cases hb : decide (50 < s.size) with
    | true => exact go _ _ _ ha hb rfl (ct_long_run _)
    | false =>
      have hk : n % 9 < 9 := Nat.mod_lt _ (by decide)
      match hm : n % 9, hk with
      | 0, _ => exact go _ _ _ ha hb hm ct_0_run
      | 1, _ => exact go _ _ _ ha hb hm ct_1_run
      | 2, _ => exact go _ _ _ ha hb hm ct_2_run
      | 3, _ => exact go _ _ _ ha hb hm ct_3_run
      | 4, _ => exact go _ _ _ ha hb hm ct_4_run
      | 5, _ => exact go _ _ _ ha hb hm ct_5_run
      | 6, _ => exact go _ _ _ ha hb hm ct_6_run
      | 7, _ => exact go _ _ _ ha hb hm ct_7_run
      | 8, _ => exact go _ _ _ ha hb hm ct_8_run
      | k + 9, hk => exact absurd hk (by omega)
theorem ct_calls {W : World} (hsh : W.ShapedOpen Tryz.prog) (hL : laidMetH Tryz.prog Rows.checkTwiceRow.laid W) (s : ByteArray) (n : Nat) (l : Int) : Calls Tryz.prog 3 #[.string s, .int .u8 n, .int .i64 l] W (fun e w' => e = .returned (.bool true) ∧ RowKit.Below W.heap.size W w') := by
  letI := opqTwice s n l
  rw [MakeChecks.laidMetH_plain _ _ _ (by kernel_rfl)] at hL
  refine calls_args (bs := ctBs) (vs := [.string s, .int .u8 n, .int .i64 l]) (by kernel_rfl) (show ∀ ρ : Rho, VRs ρ [.opq 0, .opq 200, .opq 201] [.string s, .int .u8 n, .int .i64 l] from fun ρ => VRs.cons rfl (VRs.cons rfl (VRs.cons rfl VRs.nil))) (ct_row s n l) ?_ (by kernel_rfl) hsh hL
  intro x hx
  rcases List.mem_cons.1 hx with rfl | hx
  · exact ⟨by decide, "chisel/expr.tests", Rows.laid_chisel_expr_tests, 231, 6, by simp [Rows.checkTwiceRow], by kernel_rfl, by kernel_rfl, by kernel_rfl⟩
  rcases List.mem_cons.1 hx with rfl | hx
  · exact ⟨by decide, "unicode/utf8.acceptRanges", Rows.laid_unicode_utf8_acceptRanges, 286, 6, by simp [Rows.checkTwiceRow], by kernel_rfl, by kernel_rfl, by kernel_rfl⟩
  cases hx
theorem ct_byte {n : Int} (h : (Lit.int .u8 n).wf = true) : ∃ m : Nat, m < 256 ∧ n = m := by
  have h1 : IntKind.u8.min = 0 := rfl
  have h2 : IntKind.u8.max = 255 := rfl
  simp [Lit.wf, h1, h2] at h
  exact ⟨n.toNat, by omega, by omega⟩
theorem ct_own : ownKnob Tryz.prog.godebug = none := by kernel_rfl
set_option maxRecDepth 100000 in
theorem ct_lifted (os : Os) (started : os.Started) (H : Type) (enc : TypeId × Value → H) :
    ReturnsInHanded {} Tryz.checked os 3 .any (fun w args => (Rows.checkTwiceSpec.pre enc Tryz.prog Tryz.f3 [] false w args ∧ laidMetH Tryz.prog Rows.checkTwiceRow.laid w) ∧ sizedMet enc Tryz.prog Tryz.f3 (OpenSpec.ofChange Rows.checkTwiceSpec) false w args)
      (Rows.checkTwiceSpec.post enc Tryz.prog Tryz.f3 false true false false) := by
  letI : Opq := opqNone
  refine args_lifted (C := Tryz.checked) (t := 4) os started H enc ct_own (by kernel_rfl) Tryz.func3 (by kernel_rfl) Tryz.underlying4 rfl (fun K ds hl => ?_)
    (ChangeSpec.witness_shaped (enc := enc) (C := Tryz.checked) (os := os) (X := fun w _ => laidMetH Tryz.prog Rows.checkTwiceRow.laid w) false (World.laidAll Tryz.prog os Rows.checkTwiceRow.laid) #[.string .empty, .int .u8 0, .int .i64 0] 8 (World.laidAll_os _ _ _)
      (World.shaped_of_ZipB (by kernel_rfl) (by kernel_rfl)) (by kernel_rfl) (by kernel_rfl) (by kernel_rfl)
      (by rw [MakeChecks.laidMetH_plain _ _ _ (by kernel_rfl)]; exact laidMet_laidAll _ (by kernel_rfl) (by kernel_rfl))) ?_
  · rw [show Tryz.f3.params = #[9, 5, 3] from Tryz.params3] at hl
    match ds, hl with
    | [d1, d2, d3], _ => rfl
  · intro W base args ds p hsh hx hval0 hA0 _
    have hval : ∀ (j : Nat) t v, Tryz.f3.params[j]? = some t → args[j]? = some v → Value.okWide Tryz.prog W .any base t v := hval0
    have hA : DataW.TrodAll enc Tryz.prog W 0 (fun _ => true) true Tryz.f3.params.toList args.toList ds p := hA0
    show Calls Tryz.prog 3 args W (fun e w' => e = .returned (.bool true) ∧ RowKit.Below W.heap.size W w' ∧ ∃ p', DataW.TrodAll enc Tryz.prog w' 0 (fun b => decide (b < W.heap.size)) true Tryz.f3.params.toList args.toList ds p')
    rw [Tryz.params3] at hA hval ⊢
    obtain ⟨v0, vs0, d0, ds0, p0, q0, hargs, rfl, rfl, h0, r0⟩ := trodAll_cons hA
    obtain ⟨v1, vs1, d1, ds1, p1, q1, rfl, rfl, rfl, h1, r1⟩ := trodAll_cons r0
    obtain ⟨v2, vs2, d2, ds2, p2, q2, rfl, rfl, rfl, h2, r2⟩ := trodAll_cons r1
    obtain ⟨rfl, rfl, rfl⟩ := trodAll_nil r2
    obtain rfl : args = #[v0, v1, v2] := by cases args; simp_all
    obtain ⟨s0, rfl, rfl, rfl, w0⟩ := open_string Tryz.underlying9 (hval 0 9 v0 rfl rfl) h0
    obtain ⟨a1, rfl, rfl, rfl, w1⟩ := open_int Tryz.underlying5 (hval 1 5 v1 rfl rfl) h1
    obtain ⟨a2, rfl, rfl, rfl, w2⟩ := open_int Tryz.underlying3 (hval 2 3 v2 rfl rfl) h2
    obtain ⟨n, hn, rfl⟩ : ∃ n : Nat, n < 256 ∧ a1 = n := ct_byte w1
    refine (ct_calls hsh hx s0 n a2).mono fun e W' ⟨he, bel⟩ => ?_
    exact ⟨he, bel, _, trodAll_cons_mk (shut_string Tryz.underlying9 w0) (trodAll_cons_mk (shut_int Tryz.underlying5 w1) (trodAll_cons_mk (shut_int Tryz.underlying3 w2) trodAll_mk0))⟩
theorem ct_holds : Rows.CheckTwiceSaid :=
  OpenClaim.holds_of_wide 3 Tryz.f3 rfl rfl rfl rfl rfl rfl rfl ⟨rfl, rfl, rfl, rfl, rfl⟩ rfl rfl rfl rfl rfl (by kernel_rfl) Tryz.func3 (by kernel_rfl)
    (of_decide_eq_true (by kernel_rfl)) (by unfold Func.isWrapper; first | (rw [if_pos (by decide +kernel)]; kernel_rfl) | (rw [if_neg (by decide +kernel)]; exact ⟨rfl, rfl⟩))
    (fun os started H enc _ => ct_lifted os started H enc)
theorem checkTwice_card : Rows.CheckTwiceCardSaid :=
  Claim7.holds_tied_plain_at .later [] [.data, .widerDeep, .pinned] true (true, "6e7282eab50576bba01aa993e67163b3c3041b242720db43cd0b047ac012bca5") true
    ct_holds (fun _ h => by cases h) (by kernel_rfl) (fun _ h => by cases h) checkTwice_row_tie rfl ⟨rfl, rfl⟩ (by kernel_rfl) rfl
    (fun f fn hf hfn => by
      obtain rfl : f = 3 := Option.some.inj ((show Tryz.prog.funcNamed "chisel/chisellaw25.CheckTwice" = some 3 by kernel_rfl).symm.trans hf) |>.symm
      obtain rfl : fn = Tryz.f3 := (Option.some.inj (Tryz.func3.symm.trans hfn)).symm
      exact ⟨by kernel_rfl, fun j t ht => by
        rw [show Tryz.f3.params = #[9, 5, 3] from Tryz.params3] at ht
        have h : t = 9 ∨ t = 5 ∨ t = 3 := by
          match j, ht with
          | 0, ht => exact .inl (by simpa using ht.symm)
          | 1, ht => exact .inr (.inl (by simpa using ht.symm))
          | 2, ht => exact .inr (.inr (by simpa using ht.symm))
          | j + 3, ht => simp at ht
        rcases h with rfl | rfl | rfl
        · show Tryz.prog.wantsStandIn 9 = false
          kernel_rfl
        · show Tryz.prog.wantsStandIn 5 = false
          kernel_rfl
        · show Tryz.prog.wantsStandIn 3 = false
          kernel_rfl⟩)
    (by kernel_rfl)
#print axioms checkTwice_card
end Go.Proofs.YtghflileejejbaaGreatDoor
