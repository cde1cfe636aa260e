/- Part of a proof about calls of this program: the evaluator of the first text is sound; this text is one step of it. No condition. -/
import Derived.Test.YtfbeheihdjglgaaDoorShJoin
import Derived.SizedLaws
import Derived.Carry
set_option linter.unusedSectionVars false
set_option linter.unusedSimpArgs false
set_option linter.unusedVariables false
namespace Go.Sh
variable [Opq]
open Go.RowKit (Below)
open Go.ChangeShapes Go.WideShapes Go.ChangeAt Go.RowKit

theorem trodAll_len {H : Type} {enc : TypeId × Value → H} {P : Program} {W : World} {b : Nat} {sp : Nat → Bool} {hd : Bool} : ∀ {ts : List TypeId} {vs : List Value} {ds : List (DataW H)} {ps : List MemPlace}, DataW.TrodAll enc P W b sp hd ts vs ds ps → ds.length = ts.length
  | [], vs, ds, ps, h => by obtain ⟨_, rfl, _⟩ := trodAll_nil h; rfl
  | t :: ts, vs, ds, ps, h => by
    obtain ⟨v, vs', d, ds', p, q, rfl, rfl, rfl, _, h2⟩ := trodAll_cons h
    simp [trodAll_len h2]
/-- **A law with arguments: its lifted row, out of a contract at each world that fits.** -/
theorem args_lifted {C : Checked} {f : FuncId} {fn : Func} {s : ChangeSpec} {t : TypeId} {laid : List (String × DataW Unit)} (os : Os) (started : os.Started) (H : Type) (enc : TypeId × Value → H)
    (own : ownKnob C.prog.godebug = none) (noInit : C.prog.inits.idxOf? f = none) (hfn : C.prog.funcs[f]? = some fn) (hr : fn.resultTypes = #[t]) (ht : C.prog.underlying t = some .bool)
    (hv : s.vars = []) (hs : ∀ (K : Type) (ds : List (DataW K)), ds.length = fn.params.toList.length → s.fn K ds = { results := [.lit (.bool true)], args := ds })
    (witness : ∃ (w : World) (tape : Tape) (i : Input), w.os = os ∧ (w.forCall tape i).Shaped C.prog ∧ i.vars = [] ∧ Input.okWide C.prog (w.forCall tape i) .any w.heap.size f i ∧
      ((s.pre enc C.prog fn [] false (w.forCall tape i).memory i.args ∧ laidMetH C.prog laid (w.forCall tape i).memory) ∧ sizedMet enc C.prog fn (OpenSpec.ofChange s) false (w.forCall tape i).memory i.args) ∧
      ({} : Assume).holds C.prog (lone (Frame.enter C.prog f i.args .normal) [] (w.forCall tape i)))
    (calls : ∀ (W : World) (base : Nat) (args : Array Value) (ds : List (DataW H)) (p : List MemPlace), W.ShapedOpen C.prog → laidMetH C.prog laid W → (∀ (j : Nat) t v, fn.params[j]? = some t → args[j]? = some v → Value.okWide C.prog W .any base t v) →
      DataW.TrodAll enc C.prog W 0 (fun _ => true) true fn.params.toList args.toList ds p → (DataW.weightsEach C.prog (fn.params.toList ++ s.plain.varTypes C.prog) (ds ++ [])).all (· ≤ reachBytes) = true →
      Calls C.prog f args W (fun e w' => e = .returned (.bool true) ∧ RowKit.Below W.heap.size W w' ∧ ∃ p', DataW.TrodAll enc C.prog w' 0 (fun b => decide (b < W.heap.size)) true fn.params.toList args.toList ds p')) :
    ReturnsInHanded {} C os f .any (fun w args => (s.pre enc C.prog fn [] false w args ∧ laidMetH C.prog laid w) ∧ sizedMet enc C.prog fn (OpenSpec.ofChange s) false w args)
      (s.post enc C.prog fn false true false false) := by
  refine returnsInHanded_of_calls own started noInit witness ?_
  intro w tape i _ hsh _ hok hpre _
  obtain ⟨_, _, _, fn', hfn', _, _, _, _, hval⟩ := hok
  have e : fn' = fn := Option.some.inj (hfn'.symm.trans hfn)
  subst e
  obtain ⟨⟨⟨ds, gs, before, hw, hc⟩, hx⟩, hz⟩ := hpre
  have hw' := DataW.Whole.of_heap (w' := w.forCall tape i) (by rfl) hw
  have hx' : laidMetH C.prog laid (w.forCall tape i) := hx.of_heap (by rfl)
  have hwt := hz.weights hw
  have hw'' := hw'
  obtain ⟨p, q, hA, hV, rfl, _, _⟩ := hw''
  rw [hv] at hV
  obtain ⟨rfl, rfl⟩ := trodVars_none hV
  refine (calls (w.forCall tape i) w.heap.size i.args ds p hsh hx' hval hA hwt).mono fun e W' ⟨he, hb, p', hA'⟩ => ?_
  subst he
  have hf : s.fn H (ds ++ []) = { results := [.lit (.bool true)], args := ds } := by rw [List.append_nil]; exact hs H ds (trodAll_len hA)
  refine ChangeSpec.post_blind ⟨ds, [], p ++ [], [], p', [], hw', ?_, ?_, ?_, hb.frame _, fun h => by cases h⟩
  · rw [hf, hr]
    exact trodAll_mk1 (shut_bool ht true)
  · rw [hf]
    exact hA'
  · rw [hf, hv]
    rfl
/-- **A function without arguments, called in a world behind the start.** -/
theorem calls_closed_at {P : Program} {G : Nat} {bs : List (Nat × Nat × List SV)} {laid : List (String × DataW Unit)} {f : FuncId} (hG : P.globals.size = G)
    (hrow : ∀ (ρ0 : Rho) (n0 : Nat), (∀ b, G ≤ b → ρ0 b = none) → KRowOk (LaidI (rowHp .e bs) ρ0 n0) P f ⟨G, [], [], .bool true, none⟩)
    (hbs : ∀ x ∈ bs, x.1 < G ∧ ∃ n d t m, (n, d) ∈ laid ∧ P.globalNamed n = some x.1 ∧ (P.globals[x.1]?).map (·.type) = some t ∧ plS P m t d = some x.2.2)
    (hz : ((List.range P.globals.size).all fun g => (((begin P (fun _ _ => 0) default).world.heap[g]?).bind Obj.row?).isSome) = true)
    {W0 W : World} (hsh : W0.ShapedOpen P) (hL : laidMet P laid W0) (hB : RowKit.Below W0.heap.size W0 W) : Calls P f #[] W (fun e w' => e = .returned (.bool true) ∧ RowKit.Below W.heap.size W w') := by
  let ρ0 : Rho := fun g => if g < G then some (g, 0, 0) else none
  have hat : ∀ b x, ρ0 b = some x → b < G ∧ x = (b, 0, 0) := fun b x h => by
    simp only [ρ0] at h
    split at h
    · rename_i hb; cases h; exact ⟨hb, rfl⟩
    · cases h
  have hin : ∀ b, b < G → ρ0 b = some (b, 0, 0) := fun b h => by simp only [ρ0]; rw [if_pos h]
  refine (start_of_row (w := W) (hrow ρ0 W.heap.size fun b hb => (by simp only [ρ0]; rw [if_neg (by omega)])) rfl rfl rfl ?_ ?_ ?_ ?_).mono fun e w' h => ?_
  · intro g hg
    rw [hG] at hg
    exact ⟨0, hin g hg⟩
  · intro b hb
    have hb' : G ≤ b := hb
    simp only [ρ0]
    rw [if_neg (by omega)]
  · intro b hn
    rcases rowHp_get .e bs b with h | h | ⟨x, hx, rfl, _⟩
    · rw [h, Hp.get_e] at hn; cases hn
    · rw [h] at hn; cases hn
    · exact ⟨_, hin x.1 (hbs x hx).1⟩
  · intro b q base e h
    obtain ⟨hb, hx⟩ := hat b _ h
    cases hx
    have hlt := shape_size hsh hz (by rw [hG]; exact hb)
    refine ⟨Nat.lt_of_lt_of_le hlt hB.size, ?_⟩
    rw [hB.block _ hlt]
    rcases rowHp_get .e bs b with h | h | ⟨x, hx, rfl, h⟩
    · rw [h, Hp.get_e]; simp [BR]
    · rw [h]; simp [BR]
    · rw [h]
      obtain ⟨_, n, d, t, m, h1, h2, h3, h4⟩ := hbs x hx
      exact laid_block hL h1 h2 h3 h4 ρ0 _
  · obtain ⟨v, rfl, hv, hB'⟩ := h
    simp only [VR] at hv
    subst hv
    exact ⟨rfl, hB'⟩
/-- **A law with arguments, out of a row of calls at them.** -/
theorem calls_args {P : Program} {G : Nat} {bs : List (Nat × Nat × List SV)} {laid : List (String × DataW Unit)} {f : FuncId} {as : List SV} {vs : List Value} (hG : P.globals.size = G) (has : ∀ ρ : Rho, VRs ρ as vs)
    (hrow : ∀ (ρ0 : Rho) (n0 : Nat), (∀ b, G ≤ b → ρ0 b = none) → KRowOk (LaidI (rowHp .e bs) ρ0 n0) P f ⟨G, as, [], .bool true, none⟩)
    (hbs : ∀ x ∈ bs, x.1 < G ∧ ∃ n d t m, (n, d) ∈ laid ∧ P.globalNamed n = some x.1 ∧ (P.globals[x.1]?).map (·.type) = some t ∧ plS P m t d = some x.2.2)
    (hz : ((List.range P.globals.size).all fun g => (((begin P (fun _ _ => 0) default).world.heap[g]?).bind Obj.row?).isSome) = true)
    {W : World} (hsh : W.ShapedOpen P) (hL : laidMet P laid W) : Calls P f vs.toArray W (fun e w' => e = .returned (.bool true) ∧ RowKit.Below W.heap.size W w') := by
  let ρ0 : Rho := fun g => if g < G then some (g, 0, 0) else none
  have hat : ∀ b x, ρ0 b = some x → b < G ∧ x = (b, 0, 0) := fun b x h => by
    simp only [ρ0] at h
    split at h
    · rename_i hb; cases h; exact ⟨hb, rfl⟩
    · cases h
  have hin : ∀ b, b < G → ρ0 b = some (b, 0, 0) := fun b h => by simp only [ρ0]; rw [if_pos h]
  have hno : ∀ b, G ≤ b → ρ0 b = none := fun b hb => by simp only [ρ0]; rw [if_neg (by omega)]
  have hl : ∀ b q base e, ρ0 b = some (q, base, e) → q < W.heap.size ∧ BR ρ0 base e ((rowHp .e bs).get b) W.heap[q]? := fun b q base e h => by
    obtain ⟨hb, hx⟩ := hat b _ h
    cases hx
    refine ⟨shape_size hsh hz (by rw [hG]; exact hb), ?_⟩
    rcases rowHp_get .e bs b with h | h | ⟨x, hx, rfl, h⟩
    · rw [h, Hp.get_e]; simp [BR]
    · rw [h]; simp [BR]
    · rw [h]
      obtain ⟨_, n, d, t, m, h1, h2, h3, h4⟩ := hbs x hx
      exact laid_block hL h1 h2 h3 h4 ρ0 _
  have hdom : ∀ b, isNone ((rowHp .e bs).get b) = false → ∃ x, ρ0 b = some x := fun b hn => by
    rcases rowHp_get .e bs b with h | h | ⟨x, hx, rfl, _⟩
    · rw [h, Hp.get_e] at hn; cases hn
    · rw [h] at hn; cases hn
    · exact ⟨_, hin x.1 (hbs x hx).1⟩
  refine ((hrow ρ0 W.heap.size hno).calls ρ0 W vs ⟨Rho.le_refl _, Nat.le_refl _, hdom, hl⟩ (fun g hg => ⟨0, hin g (by omega)⟩) (fun _ => hno) (fun b q base e hq => (hl b q base e hq).1) (fun x hx => by cases hx) (has ρ0)).mono fun e w' he => ?_
  obtain ⟨v, rfl, hB, h3⟩ := he
  unfold RowEnd at h3
  have hv : VR ρ0 (.bool true) v := h3
  simp only [VR] at hv
  subst hv
  exact ⟨rfl, hB⟩
end Go.Sh
