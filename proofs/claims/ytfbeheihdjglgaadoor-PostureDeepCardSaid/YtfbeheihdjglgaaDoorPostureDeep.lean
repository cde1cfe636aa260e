/- Part of the proof that the law PostureDeep answers true: the law itself, and the tied card. No condition. -/
import Derived.Test.YtfbeheihdjglgaaDoorTie
import Derived.Test.YtfbeheihdjglgaaDoorCards
import Derived.Test.YtfbeheihdjglgaaDoorPd
import Derived.Test.YtfbeheihdjglgaaDoorPostureDeepR0
import Derived.Test.YtfbeheihdjglgaaDoorPostureDeepC0
import Derived.Test.YtfbeheihdjglgaaDoorPostureDeepC1
import Derived.Test.YtfbeheihdjglgaaDoorPostureDeepC2
import Derived.Test.YtfbeheihdjglgaaDoorPostureDeepC3
import Derived.Test.YtfbeheihdjglgaaDoorPostureDeepS
import Derived.ChangeMaps5
namespace Go.Proofs.YtfbeheihdjglgaaDoor
open Go Go.Sh Go.Pd Go.ChangeShapes Go.WideShapes Go.ChangeAt Go.RowKit Go.ChangeMaps
theorem kHp_eq (K : Hp) : ∀ bs : List (Nat × Nat × List SV), kHp K bs = rowHp K bs
  | [] => rfl
  | x :: bs => by unfold kHp rowHp; rw [kHp_eq K bs]
theorem kE_eq (t : Nat) (h : kE0 t = true) : Tryd.prog.stoodInHeld t = false ∧ Tryd.prog.eqGuardType Tryd.prog.depth t = false := by
  simp only [kE0, Bool.or_eq_true] at h
  rcases h with h | h | h | h
  · obtain rfl := Nat.eq_of_beq_eq_true h; exact ⟨by kernel_rfl, by kernel_rfl⟩
  · obtain rfl := Nat.eq_of_beq_eq_true h; exact ⟨by kernel_rfl, by kernel_rfl⟩
  · obtain rfl := Nat.eq_of_beq_eq_true h; exact ⟨by kernel_rfl, by kernel_rfl⟩
  · obtain rfl := Nat.eq_of_beq_eq_true h; exact ⟨by kernel_rfl, by kernel_rfl⟩
theorem kE_ok [Opq] : EOk Tryd.prog kE := ⟨kE_eq, fun _ _ _ _ _ _ _ _ h => absurd rfl h, fun _ _ _ _ h => absurd rfl h, fun _ _ _ h => absurd rfl h⟩
theorem kX_ok [Opq] (I : Rho → World → Prop) : XOk I Tryd.prog kX where
  ext f k h _ := by
    unfold kX at h
    cases hb : Nat.beq f 92 with
    | true =>
      rw [hb, cond_true] at h
      cases h
      obtain rfl := Nat.eq_of_beq_eq_true hb
      exact row_indexByteStr ⟨_, Tryd.func92, by kernel_rfl, by kernel_rfl, by kernel_rfl, by kernel_rfl⟩
    | false => rw [hb, cond_false] at h; cases h
  known f rows h := by
    unfold kX at h
    cases hb : Nat.beq f 92 with
    | true => rw [hb, cond_true] at h; cases h
    | false => rw [hb, cond_false] at h; cases h
theorem kPlain (b : Nat) : (rowHp .e kBs).get b = .none ∨ ∃ ty cs, (rowHp .e kBs).get b = .ro ty cs ∧ cs.all plain = true := by
  rcases rowHp_get .e kBs b with h | h | ⟨x, hx, _, h⟩
  · left; rw [h, Hp.get_e]
  · exact .inl h
  · right
    refine ⟨x.2.1, x.2.2, h, ?_⟩
    have : (kBs.all fun x => x.2.2.all plain) = true := by kernel_rfl
    exact List.all_eq_true.1 this x hx
theorem kP7 (c : Nat) (_ : c < 4) : PdPr Tryd.prog kE0 kX (rowHp .e kBs) 3 7 (mk7 c) (mv7 c) where
  mixed := by kernel_rfl
  size := by kernel_rfl
  pos := rfl
  e := kE_eq
  x _ I := kX_ok I
  body := by kernel_rfl
  ro := letI : Opq := opqNone; rowHp_ro
  plain := kPlain
  vk O ρ i l lv h := VRs.cons (by simp only [VR]; exact ⟨[.int .i64 (.ofNat c), _], VRs.cons (by simp [VR]) (VRs.cons rfl VRs.nil), rfl⟩) (VRs.cons h VRs.nil)
  km O ρ i j args h := by
    simp only [mk7, VRs, VR] at h
    obtain ⟨y, ys, ⟨l, ⟨a, as', h1, ⟨b, bs', h2, h3, h4⟩, h5⟩, h6⟩, ⟨z, zs, h7, h8, h9⟩, h10⟩ := h
    subst h3 h4 h5 h6 h8 h9 h10 h1 h2 h7
    rfl
  km1 O ρ n j args h := by
    simp only [mk7, VRs, VR] at h
    obtain ⟨y, ys, ⟨l, ⟨a, as', h1, ⟨b, bs', h2, h3, h4⟩, h5⟩, h6⟩, ⟨z, zs, h7, h8, h9⟩, h10⟩ := h
    subst h3 h4 h5 h6 h8 h9 h10 h1 h2 h7
    rfl
  sc _ _ _ b := by cases b <;> rfl
theorem kP8 (c : Nat) (_ : c < 4) : PdPr Tryd.prog kE0 kX (rowHp .e kBs) 3 8 (mk8 c) (mv8 c) where
  mixed := by kernel_rfl
  size := by kernel_rfl
  pos := rfl
  e := kE_eq
  x _ I := kX_ok I
  body := by kernel_rfl
  ro := letI : Opq := opqNone; rowHp_ro
  plain := kPlain
  vk O ρ i l lv h := VRs.cons h (VRs.cons (by simp [VR]) (VRs.cons rfl VRs.nil))
  km O ρ i j args h := by
    simp only [mk8, VRs, VR] at h
    obtain ⟨y, ys, h1, ⟨a, as', h2, ⟨b, bs', h3, h4, h5⟩, h6⟩, h7⟩ := h
    subst h4 h5 h6 h7 h1 h2 h3
    rfl
  km1 O ρ n j args h := by
    simp only [mk8, VRs, VR] at h
    obtain ⟨y, ys, h1, ⟨a, as', h2, ⟨b, bs', h3, h4, h5⟩, h6⟩, h7⟩ := h
    subst h4 h5 h6 h7 h1 h2 h3
    rfl
  sc _ _ _ b := by cases b <;> rfl
theorem kV7 (c : Nat) (h : c < 4) : PdEvs Tryd.prog kE0 kX (rowHp .e kBs) 3 7 (mk7 c) := by
  match c, h with
  | 0, _ => exact kV7_0
  | 1, _ => exact kV7_1
  | 2, _ => exact kV7_2
  | 3, _ => exact kV7_3
  | c + 4, h => exact absurd h (by omega)
theorem kV8 (c : Nat) (h : c < 4) : PdEvs Tryd.prog kE0 kX (rowHp .e kBs) 3 8 (mk8 c) := by
  match c, h with
  | 0, _ => exact kV8_0
  | 1, _ => exact kV8_1
  | 2, _ => exact kV8_2
  | 3, _ => exact kV8_3
  | c + 4, h => exact absurd h (by omega)
theorem kW_ok [Opq] {ρ0 : Rho} (n0 : Nat) (h0 : ∀ b, 3 ≤ b → ρ0 b = none) : KRowOk (LaidI (rowHp .e kBs) ρ0 n0) Tryd.prog 6 kW :=
  krow_any_of_ev (E := kE) (X := kX) (m := 1000) (by kernel_rfl) ⟨kE_ok⟩ (kX_ok _) rowHp_ro (by kernel_rfl) h0 rfl rfl rfl (by kernel_rfl) (by kernel_rfl) (by kernel_rfl) (by rw [← kHp_eq]; exact kW_run)
/-- the nested instructions that the law makes -/
def kOnes (kd : Nat) : Nat → Nst
  | 0 => .nil
  | i + 1 => .one kd (kOnes kd i)
def kPairs : Nat → Nst
  | 0 => .nil
  | i + 1 => .pair (kPairs i)
def kNst (m cnt : Nat) : Nst := cond (Nat.beq m 0) (kOnes 1 cnt) (cond (Nat.beq m 1) (kOnes 19 cnt) (cond (Nat.beq (Nat.mod cnt 2) 0) (kPairs (Nat.div cnt 2)) (.els (kPairs (Nat.div cnt 2)))))
theorem kOnes_good {kd : Nat} (h : kd = 1 ∨ kd = 19) : ∀ i, (kOnes kd i).good ∧ (kOnes kd i).deep = i
  | 0 => ⟨trivial, rfl⟩
  | i + 1 => ⟨⟨h, (kOnes_good h i).1⟩, by simp [kOnes, Nst.deep, (kOnes_good h i).2]⟩
theorem kPairs_good : ∀ i, (kPairs i).good ∧ (kPairs i).deep = 2 * i
  | 0 => ⟨trivial, rfl⟩
  | i + 1 => ⟨(kPairs_good i).1, by simp [kPairs, Nst.deep, (kPairs_good i).2]; omega⟩
theorem kNst_good (m cnt : Nat) : (kNst m cnt).good ∧ (kNst m cnt).deep ≤ cnt + 1 := by
  unfold kNst
  cases Nat.beq m 0 with
  | true => exact ⟨(kOnes_good (.inl rfl) cnt).1, by rw [cond_true, (kOnes_good (.inl rfl) cnt).2]; omega⟩
  | false =>
    rw [cond_false]
    cases Nat.beq m 1 with
    | true => exact ⟨(kOnes_good (.inr rfl) cnt).1, by rw [cond_true, (kOnes_good (.inr rfl) cnt).2]; omega⟩
    | false =>
      rw [cond_false]
      have hd : Nat.div cnt 2 = cnt / 2 := rfl
      cases Nat.beq (Nat.mod cnt 2) 0 with
      | true => exact ⟨(kPairs_good _).1, by rw [cond_true, (kPairs_good _).2, hd]; omega⟩
      | false => exact ⟨(kPairs_good (Nat.div cnt 2)).1, by
          rw [cond_false]
          show (kPairs (Nat.div cnt 2)).deep + 1 ≤ cnt + 1
          rw [(kPairs_good _).2, hd]; omega⟩
theorem kFlat (j m : Nat) (hj : j < 10) (hm : m < 3) : lev m (Nat.add 195 j) = (kNst m (Nat.add 195 j)).flat := by
  have h : ((List.range 10).all fun j => (List.range 3).all fun m => lev m (Nat.add 195 j) == (kNst m (Nat.add 195 j)).flat) = true := by kernel_rfl
  exact eq_of_beq (List.all_eq_true.1 (List.all_eq_true.1 h j (List.mem_range.2 hj)) m (List.mem_range.2 hm))
theorem kLaw_all (j m : Nat) (hj : j < 10) (hm : m < 3) : kLaw j m = true := by
  match j, m, hj, hm with
  | 0, 0, _, _ => exact k_law_0_0
  | 0, 1, _, _ => exact k_law_0_1
  | 0, 2, _, _ => exact k_law_0_2
  | 1, 0, _, _ => exact k_law_1_0
  | 1, 1, _, _ => exact k_law_1_1
  | 1, 2, _, _ => exact k_law_1_2
  | 2, 0, _, _ => exact k_law_2_0
  | 2, 1, _, _ => exact k_law_2_1
  | 2, 2, _, _ => exact k_law_2_2
  | 3, 0, _, _ => exact k_law_3_0
  | 3, 1, _, _ => exact k_law_3_1
  | 3, 2, _, _ => exact k_law_3_2
  | 4, 0, _, _ => exact k_law_4_0
  | 4, 1, _, _ => exact k_law_4_1
  | 4, 2, _, _ => exact k_law_4_2
  | 5, 0, _, _ => exact k_law_5_0
  | 5, 1, _, _ => exact k_law_5_1
  | 5, 2, _, _ => exact k_law_5_2
  | 6, 0, _, _ => exact k_law_6_0
  | 6, 1, _, _ => exact k_law_6_1
  | 6, 2, _, _ => exact k_law_6_2
  | 7, 0, _, _ => exact k_law_7_0
  | 7, 1, _, _ => exact k_law_7_1
  | 7, 2, _, _ => exact k_law_7_2
  | 8, 0, _, _ => exact k_law_8_0
  | 8, 1, _, _ => exact k_law_8_1
  | 8, 2, _, _ => exact k_law_8_2
  | 9, 0, _, _ => exact k_law_9_0
  | 9, 1, _, _ => exact k_law_9_1
  | 9, 2, _, _ => exact k_law_9_2
  | j + 10, _, hj, _ => exact absurd hj (by omega)
  | _, m + 3, _, hm => exact absurd hm (by omega)
theorem kY_at {m cnt f : Nat} {k : XK} (h : kY m cnt f = some k) : (f = 4 ∧ k = .known [kTop m cnt]) ∨ (f = 5 ∧ k = .known [kTop m cnt]) ∨ (f = 6 ∧ k = .known [kW]) ∨ kX f = some k := by
  unfold kY at h
  cases hb0 : Nat.beq f 4 with
  | true => rw [hb0, cond_true] at h; cases h; exact .inl ⟨Nat.eq_of_beq_eq_true hb0, rfl⟩
  | false =>
  rw [hb0, cond_false] at h
  cases hb1 : Nat.beq f 5 with
  | true => rw [hb1, cond_true] at h; cases h; exact .inr (.inl ⟨Nat.eq_of_beq_eq_true hb1, rfl⟩)
  | false =>
  rw [hb1, cond_false] at h
  cases hb2 : Nat.beq f 6 with
  | true => rw [hb2, cond_true] at h; cases h; exact .inr (.inr (.inl ⟨Nat.eq_of_beq_eq_true hb2, rfl⟩))
  | false =>
  rw [hb2, cond_false] at h
  exact .inr (.inr (.inr h))
/-- the law's unknown values: its numbers, and the answer of both functions -/
def kPV (n k : Nat) (c : Int) : PV :=
  { cx := c, p := cond (cxOk c && (kNst (k % 3) (Nat.add 195 (n % 10))).ok 1) 0 4, s := cond (cxOk c && (kNst (k % 3) (Nat.add 195 (n % 10))).ok 1) 0 2, n := n, k := k }
theorem k_row (n k : Nat) (hn : n < 256) (c : Int) (ρ0 : Rho) (n0 : Nat) (h0 : ∀ b, 3 ≤ b → ρ0 b = none) (hG : Glob Tryd.prog.globals.size ρ0) :
    letI := opqPd (kPV n k c); KRowOk (LaidI (rowHp .e kBs) ρ0 n0) Tryd.prog 3 ⟨3, [.opq 300, .opq 301, .opq 204], [], .bool true, none⟩ := by
  letI := opqPd (kPV n k c)
  have hj : n % 10 < 10 := Nat.mod_lt _ (by decide)
  have hm : k % 3 < 3 := Nat.mod_lt _ (by decide)
  have hg := kNst_good (k % 3) (Nat.add 195 (n % 10))
  have hdp : (kNst (k % 3) (Nat.add 195 (n % 10))).deep ≤ 1000 := by
    have h1 := hg.2
    have h2 : Nat.add 195 (n % 10) = 195 + n % 10 := rfl
    omega
  have hO : POk (kPV n k c) (kO (n % 10) (k % 3)) := ⟨fun _ h => (by cases h), fun _ h => (by cases h), fun _ h => (by cases h), fun _ h => (by cases h), rfl, rfl, hn, (show (0 : Int) ≤ 0 by decide), (show (0 : Int) ≤ 1000000 by decide)⟩
  have r4 := law_row kP7 kV7 kT4 (n0 := n0) h0 hG hg.1 hdp (kFlat _ _ hj hm) (pv := kPV n k c) rfl rfl
  have r5 := law_row kP8 kV8 kT5 (n0 := n0) h0 hG hg.1 hdp (kFlat _ _ hj hm) (pv := kPV n k c) rfl rfl
  have hX : XOk (LaidI (rowHp .e kBs) ρ0 n0) Tryd.prog (kY (k % 3) (Nat.add 195 (n % 10))) := by
    refine ⟨fun f k h hk => ?_, fun f rows h => ?_⟩
    · rcases kY_at h with ⟨rfl, rfl⟩ | ⟨rfl, rfl⟩ | ⟨rfl, rfl⟩ | h
      · cases hk
      · cases hk
      · cases hk
      · exact (kX_ok _).ext f k h hk
    · rcases kY_at h with ⟨rfl, h⟩ | ⟨rfl, h⟩ | ⟨rfl, h⟩ | h
      · cases h
        intro r hr
        simp only [List.mem_cons, List.not_mem_nil, or_false] at hr
        subst hr
        exact r4
      · cases h
        intro r hr
        simp only [List.mem_cons, List.not_mem_nil, or_false] at hr
        subst hr
        exact r5
      · cases h
        intro r hr
        simp only [List.mem_cons, List.not_mem_nil, or_false] at hr
        subst hr
        exact kW_ok n0 h0
      · exact (kX_ok _).known f rows h
  refine krow_of_ev (E := pdE kE0 (kO (n % 10) (k % 3))) (X := kY (k % 3) (Nat.add 195 (n % 10))) (m := 1000) (by kernel_rfl) ⟨pd_ok kE_eq hO⟩ hX (LaidI.ki rowHp_ro) rfl rfl (by kernel_rfl) ?_
  rw [← kHp_eq]
  exact kLaw_all _ _ hj hm
theorem k_bs : ∀ x ∈ kBs, x.1 < 3 ∧ ∃ n d t m, (n, d) ∈ Rows.postureDeepRow.laid ∧ Tryd.prog.globalNamed n = some x.1 ∧ (Tryd.prog.globals[x.1]?).map (·.type) = some t ∧ plS Tryd.prog m t d = some x.2.2 := by
  intro x hx
  rcases List.mem_cons.1 hx with rfl | hx
  · exact ⟨by decide, "chisel/posture.bad", Rows.laid_chisel_posture_bad, 45, 6, by simp [Rows.postureDeepRow], by kernel_rfl, by kernel_rfl, by kernel_rfl⟩
  rcases List.mem_cons.1 hx with rfl | hx
  · exact ⟨by decide, "chisel/posture.still", Rows.laid_chisel_posture_still, 45, 6, by simp [Rows.postureDeepRow], by kernel_rfl, by kernel_rfl, by kernel_rfl⟩
  cases hx
theorem k_calls {W : World} (hsh : W.ShapedOpen Tryd.prog) (hL : laidMetH Tryd.prog Rows.postureDeepRow.laid W) (n k : Nat) (hn : n < 256) (c : Int) :
    Calls Tryd.prog 3 #[.int .u8 n, .int .u8 k, .int .i64 c] W (fun e w' => e = .returned (.bool true) ∧ RowKit.Below W.heap.size W w') := by
  letI := opqPd (kPV n k c)
  rw [MakeChecks.laidMetH_plain _ _ _ (by kernel_rfl)] at hL
  exact calls_args_glob (bs := kBs) (vs := [.int .u8 n, .int .u8 k, .int .i64 c]) (by kernel_rfl) (show ∀ ρ : Rho, VRs ρ [.opq 300, .opq 301, .opq 204] [.int .u8 n, .int .u8 k, .int .i64 c] from fun ρ => VRs.cons rfl (VRs.cons rfl (VRs.cons rfl VRs.nil))) (k_row n k hn c) k_bs (by kernel_rfl) hsh hL
theorem k_byte {n : Int} (h : (Lit.int .u8 n).wf = true) : ∃ m : Nat, m < 256 ∧ n = m := by
  have h1 : IntKind.u8.min = 0 := rfl
  have h2 : IntKind.u8.max = 255 := rfl
  simp [Lit.wf, h1, h2] at h
  exact ⟨n.toNat, by omega, by omega⟩
theorem k_own : ownKnob Tryd.prog.godebug = none := by kernel_rfl
set_option maxRecDepth 100000 in
theorem k_lifted (os : Os) (started : os.Started) (H : Type) (enc : TypeId × Value → H) :
    ReturnsInHanded {} Tryd.checked os 3 .any (fun w args => (Rows.postureDeepSpec.pre enc Tryd.prog Tryd.f3 [] false w args ∧ laidMetH Tryd.prog Rows.postureDeepRow.laid w) ∧ sizedMet enc Tryd.prog Tryd.f3 (OpenSpec.ofChange Rows.postureDeepSpec) false w args)
      (Rows.postureDeepSpec.post enc Tryd.prog Tryd.f3 false true false false) := by
  letI : Opq := opqNone
  refine args_lifted (C := Tryd.checked) (t := 4) os started H enc k_own (by kernel_rfl) Tryd.func3 (by kernel_rfl) Tryd.underlying4 rfl (fun K ds hl => ?_)
    (ChangeSpec.witness_shaped (enc := enc) (C := Tryd.checked) (os := os) (X := fun w _ => laidMetH Tryd.prog Rows.postureDeepRow.laid w) false (World.laidAll Tryd.prog os Rows.postureDeepRow.laid) #[.int .u8 0, .int .u8 0, .int .i64 0] 8 (World.laidAll_os _ _ _)
      (World.shaped_of_ZipB (by kernel_rfl) (by kernel_rfl)) (by kernel_rfl) (by kernel_rfl) (by kernel_rfl)
      (by rw [MakeChecks.laidMetH_plain _ _ _ (by kernel_rfl)]; exact laidMet_laidAll _ (by kernel_rfl) (by kernel_rfl))) ?_
  · rw [show Tryd.f3.params = #[5, 5, 3] from Tryd.params3] at hl
    match ds, hl with
    | [d1, d2, d3], _ => rfl
  · intro W base args ds p hsh hx hval0 hA0 _
    have hval : ∀ (j : Nat) t v, Tryd.f3.params[j]? = some t → args[j]? = some v → Value.okWide Tryd.prog W .any base t v := hval0
    have hA : DataW.TrodAll enc Tryd.prog W 0 (fun _ => true) true Tryd.f3.params.toList args.toList ds p := hA0
    show Calls Tryd.prog 3 args W (fun e w' => e = .returned (.bool true) ∧ RowKit.Below W.heap.size W w' ∧ ∃ p', DataW.TrodAll enc Tryd.prog w' 0 (fun b => decide (b < W.heap.size)) true Tryd.f3.params.toList args.toList ds p')
    rw [Tryd.params3] at hA hval ⊢
    obtain ⟨v0, vs0, d0, ds0, p0, q0, hargs, rfl, rfl, h0, r0⟩ := trodAll_cons hA
    obtain ⟨v1, vs1, d1, ds1, p1, q1, rfl, rfl, rfl, h1, r1⟩ := trodAll_cons r0
    obtain ⟨v2, vs2, d2, ds2, p2, q2, rfl, rfl, rfl, h2, r2⟩ := trodAll_cons r1
    obtain ⟨rfl, rfl, rfl⟩ := trodAll_nil r2
    obtain rfl : args = #[v0, v1, v2] := by cases args; simp_all
    obtain ⟨a0, rfl, rfl, rfl, w0⟩ := open_int Tryd.underlying5 (hval 0 5 v0 rfl rfl) h0
    obtain ⟨a1, rfl, rfl, rfl, w1⟩ := open_int Tryd.underlying5 (hval 1 5 v1 rfl rfl) h1
    obtain ⟨a2, rfl, rfl, rfl, w2⟩ := open_int Tryd.underlying3 (hval 2 3 v2 rfl rfl) h2
    obtain ⟨n, hn, rfl⟩ : ∃ n : Nat, n < 256 ∧ a0 = n := k_byte w0
    obtain ⟨k, _, rfl⟩ : ∃ n : Nat, n < 256 ∧ a1 = n := k_byte w1
    refine (k_calls hsh hx n k hn a2).mono fun e W' ⟨he, bel⟩ => ?_
    exact ⟨he, bel, _, trodAll_cons_mk (shut_int Tryd.underlying5 w0) (trodAll_cons_mk (shut_int Tryd.underlying5 w1) (trodAll_cons_mk (shut_int Tryd.underlying3 w2) trodAll_mk0))⟩
theorem k_holds : Rows.PostureDeepSaid :=
  OpenClaim.holds_of_wide 3 Tryd.f3 rfl rfl rfl rfl rfl rfl rfl ⟨rfl, rfl, rfl, rfl, rfl⟩ rfl rfl rfl rfl rfl (by kernel_rfl) Tryd.func3 (by kernel_rfl)
    (of_decide_eq_true (by kernel_rfl)) (by unfold Func.isWrapper; first | (rw [if_pos (by decide +kernel)]; kernel_rfl) | (rw [if_neg (by decide +kernel)]; exact ⟨rfl, rfl⟩))
    (fun os started H enc _ => k_lifted os started H enc)
theorem postureDeep_card : Rows.PostureDeepCardSaid :=
  Claim7.holds_tied_plain_at .later [] [.wider, .data] true (true, "16fbcecd2d5c97bf0191c95296bafaab77225808ec92a3aa5c18ee1342ef0775") false
    k_holds (fun _ h => by cases h) (by kernel_rfl) (fun _ h => by cases h) postureDeep_row_tie rfl ⟨rfl, rfl⟩ (by kernel_rfl) rfl
    (fun f fn hf hfn => by
      obtain rfl : f = 3 := Option.some.inj ((show Tryd.prog.funcNamed "chisel/chisellaw36.PostureDeep" = some 3 by kernel_rfl).symm.trans hf) |>.symm
      obtain rfl : fn = Tryd.f3 := (Option.some.inj (Tryd.func3.symm.trans hfn)).symm
      exact ⟨by kernel_rfl, fun j t ht => by
        rw [show Tryd.f3.params = #[5, 5, 3] from Tryd.params3] at ht
        have h : t = 5 ∨ t = 3 := by
          match j, ht with
          | 0, ht => exact .inl (by simpa using ht.symm)
          | 1, ht => exact .inl (by simpa using ht.symm)
          | 2, ht => exact .inr (by simpa using ht.symm)
          | j + 3, ht => simp at ht
        rcases h with rfl | rfl
        · show Tryd.prog.wantsStandIn 5 = false
          kernel_rfl
        · show Tryd.prog.wantsStandIn 3 = false
          kernel_rfl⟩)
    (by kernel_rfl)
#print axioms postureDeep_card
end Go.Proofs.YtfbeheihdjglgaaDoor
