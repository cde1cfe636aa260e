/- Part of a proof that a closed law answers true: the evaluator of the first text is sound; this text is one step of it. No condition. -/
import Derived.Test.YtbnplpeodjknaaaGreatDoorShLaid
import Derived.ProofKit
import Derived.OpenShut
import Derived.LaidMore
import Derived.Lay
import Derived.SevenTiedAt
import Derived.Stop.Joined
set_option linter.unusedSectionVars false
set_option linter.unusedSimpArgs false
set_option linter.unusedVariables false
namespace Go.Sh
variable [Opq]
open Go.RowKit (Below)
open Go.ChangeShapes Go.WideShapes Go.ChangeAt Go.RowKit

omit [Opq] in
/-- nothing is unknown -/
abbrev opqNone : Opq where
  val i := if i < 100 then .string .empty else if i < 200 then .slice none 0 0 else .int .i64 0
  str i h := ⟨.empty, by simp [h]⟩
  slc i h h' := ⟨none, 0, 0, by rw [if_neg (by omega), if_pos h']⟩
  int i h := ⟨.i64, 0, by rw [if_neg (by omega), if_neg (by omega)]⟩
  lenS i s h hs := by
    rw [if_pos h] at hs
    cases hs
    rw [if_neg (by omega), if_neg (by omega)]
    rfl
  lenL i a l c h h' hs := by
    rw [if_neg (by omega), if_pos h'] at hs
    cases hs
    rw [if_neg (by omega), if_neg (by omega)]
    rfl
/-- **A law without arguments: its lifted row, out of one contract.** -/
theorem closed_lifted {C : Checked} {f : FuncId} {fn : Func} {s : ChangeSpec} {t : TypeId} {laid : List (String × DataW Unit)} (os : Os) (started : os.Started) (H : Type) (enc : TypeId × Value → H)
    (own : ownKnob C.prog.godebug = none) (noInit : C.prog.inits.idxOf? f = none) (hp : fn.params = #[]) (hr : fn.resultTypes = #[t]) (ht : C.prog.underlying t = some .bool)
    (hv : s.vars = []) (hs : ∀ K : Type, s.fn K [] = { results := [.lit (.bool true)], args := [] })
    (witness : ∃ (w : World) (tape : Tape) (i : Input), w.os = os ∧ (w.forCall tape i).Shaped C.prog ∧ i.vars = [] ∧ Input.okWide C.prog (w.forCall tape i) .any w.heap.size f i ∧
      ((s.pre enc C.prog fn [] false (w.forCall tape i).memory i.args ∧ laidMetH C.prog laid (w.forCall tape i).memory) ∧ sizedMet enc C.prog fn (OpenSpec.ofChange s) false (w.forCall tape i).memory i.args) ∧
      ({} : Assume).holds C.prog (lone (Frame.enter C.prog f i.args .normal) [] (w.forCall tape i)))
    (calls : ∀ W : World, W.ShapedOpen C.prog → laidMetH C.prog laid W → Calls C.prog f #[] W (fun e w' => e = .returned (.bool true) ∧ RowKit.Below W.heap.size W w')) :
    ReturnsInHanded {} C os f .any (fun w args => (s.pre enc C.prog fn [] false w args ∧ laidMetH C.prog laid w) ∧ sizedMet enc C.prog fn (OpenSpec.ofChange s) false w args)
      (s.post enc C.prog fn false true false false) := by
  refine returnsInHanded_of_calls own started noInit witness ?_
  intro w tape i _ hsh _ _ hpre _
  obtain ⟨⟨⟨ds, gs, before, hw, hc⟩, hx⟩, _⟩ := hpre
  have hw' := DataW.Whole.of_heap (w' := w.forCall tape i) (by rfl) hw
  have hx' : laidMetH C.prog laid (w.forCall tape i) := hx.of_heap (by rfl)
  have hw'' := hw'
  obtain ⟨p, q, hA, hV, rfl, _, _⟩ := hw''
  rw [hp] at hA
  rw [hv] at hV
  obtain ⟨rfl, rfl⟩ := trodVars_none hV
  have hargs : i.args = #[] ∧ ds = [] ∧ p = [] := by
    cases hl : i.args.toList with
    | nil =>
      rw [hl] at hA
      cases ds with
      | nil => exact ⟨by rw [← Array.toArray_toList (xs := i.args), hl], rfl, hA⟩
      | cons d ds => exact hA.elim
    | cons v vs =>
      rw [hl] at hA
      exact hA.elim
  obtain ⟨ha, rfl, rfl⟩ := hargs
  rw [ha] at hw' ⊢
  refine (calls (w.forCall tape i) hsh hx').mono fun e W' ⟨he, hb⟩ => ?_
  subst he
  have hf : s.fn H ([] ++ []) = { results := [.lit (.bool true)], args := [] } := hs H
  refine ChangeSpec.post_blind ⟨[], [], [] ++ [], [], [], [], hw', ?_, ?_, ?_, hb.frame _, fun h => by cases h⟩
  · rw [hf, hr]
    exact trodAll_mk1 (shut_bool ht true)
  · rw [hf, hp]
    rfl
  · rw [hf, hv]
    rfl
theorem laidMetH_nil (P : Program) (w : World) : laidMetH P [] w :=
  ⟨[], by simp [DataW.LaidVars], List.nodup_nil, fun _ _ h => by cases h⟩
/-- a row that lists no variable -/
theorem lifted_nil {C : Checked} {os : Os} {f : FuncId} {A B : World → Array Value → Prop} {Q : World → Array Value → Value → World → Prop}
    (h : ReturnsInHanded {} C os f .any (fun w args => (A w args ∧ laidMetH C.prog [] w) ∧ B w args) Q) : ReturnsInHanded {} C os f .any (fun w args => A w args ∧ B w args) Q := by
  have e : (fun w args => (A w args ∧ laidMetH C.prog [] w) ∧ B w args) = fun w args => A w args ∧ B w args := by
    funext w args
    exact propext ⟨fun h => ⟨h.1.1, h.2⟩, fun h => ⟨⟨h.1, laidMetH_nil _ _⟩, h.2⟩⟩
  rwa [e] at h
/-- the variables stand in the blocks of their own numbers -/
theorem shape_size {P : Program} {W : World} (h : W.ShapedOpen P) (hz : ((List.range P.globals.size).all fun g => (((begin P (fun _ _ => 0) default).world.heap[g]?).bind Obj.row?).isSome) = true) {g : Nat} (hg : g < P.globals.size) : g < W.heap.size := by
  have h1 := List.all_eq_true.1 hz g (List.mem_range.2 hg)
  obtain ⟨⟨zero, t⟩, hq⟩ := Option.isSome_iff_exists.1 h1
  obtain ⟨cs, hh, _⟩ := h.1 g zero t hg hq
  exact (Array.getElem?_eq_some_iff.1 hh).1
/-- **The contract of a law without arguments, out of its row of calls.** -/
theorem calls_closed {P : Program} {G : Nat} {bs : List (Nat × Nat × List SV)} {laid : List (String × DataW Unit)} {f : FuncId} (hG : P.globals.size = G)
    (hrow : ∀ (ρ0 : Rho) (n0 : Nat), (∀ b, G ≤ b → ρ0 b = none) → KRowOk (LaidI (rowHp .e bs) ρ0 n0) P f ⟨G, [], [], .bool true, none⟩)
    (hbs : ∀ x ∈ bs, x.1 < G ∧ ∃ n d t m, (n, d) ∈ laid ∧ P.globalNamed n = some x.1 ∧ (P.globals[x.1]?).map (·.type) = some t ∧ plS P m t d = some x.2.2)
    (hz : ((List.range P.globals.size).all fun g => (((begin P (fun _ _ => 0) default).world.heap[g]?).bind Obj.row?).isSome) = true)
    {W : World} (hsh : W.ShapedOpen P) (hL : laidMet P laid W) : Calls P f #[] W (fun e w' => e = .returned (.bool true) ∧ RowKit.Below W.heap.size W w') := by
  let ρ0 : Rho := fun g => if g < G then some (g, 0, 0) else none
  have hat : ∀ b x, ρ0 b = some x → b < G ∧ x = (b, 0, 0) := fun b x h => by
    simp only [ρ0] at h
    split at h
    · rename_i hb; cases h; exact ⟨hb, rfl⟩
    · cases h
  have hin : ∀ b, b < G → ρ0 b = some (b, 0, 0) := fun b h => by simp only [ρ0]; rw [if_pos h]
  refine (start_of_row (w := W) (hrow ρ0 W.heap.size fun b hb => (by simp only [ρ0]; rw [if_neg (by omega)])) rfl rfl rfl ?_ ?_ ?_ ?_).mono fun e w' h => ?_
  · intro g hg
    rw [hG] at hg
    exact ⟨0, hin g hg⟩
  · intro b hb
    have hb' : G ≤ b := hb
    simp only [ρ0]
    rw [if_neg (by omega)]
  · intro b hn
    rcases rowHp_get .e bs b with h | h | ⟨x, hx, rfl, _⟩
    · rw [h, Hp.get_e] at hn; cases hn
    · rw [h] at hn; cases hn
    · exact ⟨_, hin x.1 (hbs x hx).1⟩
  · intro b q base e h
    obtain ⟨hb, hx⟩ := hat b _ h
    cases hx
    refine ⟨shape_size hsh hz (by rw [hG]; exact hb), ?_⟩
    rcases rowHp_get .e bs b with h | h | ⟨x, hx, rfl, h⟩
    · rw [h, Hp.get_e]; simp [BR]
    · rw [h]; simp [BR]
    · rw [h]
      obtain ⟨_, n, d, t, m, h1, h2, h3, h4⟩ := hbs x hx
      exact laid_block hL h1 h2 h3 h4 ρ0 _
  · obtain ⟨v, rfl, hv, hB⟩ := h
    simp only [VR] at hv
    subst hv
    exact ⟨rfl, hB⟩
theorem rowHp_ro {bs : List (Nat × Nat × List SV)} (b : Nat) : writable ((rowHp .e bs).get b) = false := by
  rcases rowHp_get .e bs b with h | h | ⟨x, _, _, h⟩
  · rw [h, Hp.get_e]; rfl
  · rw [h]; rfl
  · rw [h]; rfl
end Go.Sh
