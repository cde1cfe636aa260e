/- Part of a proof that a closed law answers true: the evaluator of the first text is sound; this text is one step of it. No condition. -/
import Derived.Test.YtbnplpeodjknaaaGreatDoorShT
set_option linter.unusedSectionVars false
set_option linter.unusedSimpArgs false
set_option linter.unusedVariables false
namespace Go.Sh
variable [Opq]
open Go.RowKit (Below)
variable {I : Rho → World → Prop}
variable {P : Program} {E : EE} {callF : CallF}
variable {ops : Array Oper} {rows : List Row} {ρ0 : Rho} {s0 : St} {w0 : World} {N : Bound I} {n : Nat} {fr0 : Fr} {a0 : Act}
variable {PI : St → Nat → Oper → En → Prop} {d : Nat} {sv : Nat → SV} {nb : Nat → Option Nat} {ps : List Pend} {fr : Fr} {s : St} {ρ : Rho} {L : Array Bool} {a : Act} {w : World}

/-- the hypotheses on the program -/
structure PH (P : Program) (E : EE) : Prop where
  eok : EOk P E
theorem mkA_ok {env : En} {re : Operand → Value} (o : Oper) (ho : ∀ x ∈ o.op.operands, OR ρ env re x) {mk : Mk} {blk : SBlk} (h : mkA o.op P env = some (mk, blk)) : AllocOK ρ w ((execOp re o).run P w) mk blk := by
  obtain ⟨d, op, ty, pos, af, gd⟩ := o
  simp only at ho h
  cases op <;> simp only [mkA] at h <;> try (simp [mkNo] at h; done)
  case alloc e => exact alloc_ok (env := env) h
  case box e x => exact box_ok (ho x (by simp [Op.operands])) h
  case buildSlice t n ps => exact buildSlice_ok (fun x hx => ho x (by simpa [Op.operands] using hx)) h
  case makeMap t r => exact makeMap_ok (env := env) h
  case makeSlice t l c => exact makeSlice_ok (ho l (by simp [Op.operands])) (ho c (by simp [Op.operands])) h
theorem pendOk_mem : ∀ {ps : List Pend}, pendOk E P s ps = true → ∀ p ∈ ps, again E P p s = true
  | [], _, p, hp => by simp at hp
  | q :: ps, h, p, hp => by
    simp only [pendOk] at h
    cases ha : again E P q s with
    | false => rw [ha] at h; simp [failB] at h
    | true =>
      rw [ha, cond_true] at h
      rcases List.mem_cons.1 hp with rfl | hp
      · exact ha
      · exact pendOk_mem h p hp
theorem semAt_eq {ro : Option Nat} {o : Oper} {ev : Operand → Value} (h : ro ≠ none → notDefer o.op = true) : o.semAt (Wd ro).round ev = execOp ev o := by
  cases ro with
  | none => rfl
  | some l =>
    have := h (by simp)
    obtain ⟨d, op, ty, pos, af, gd⟩ := o
    cases op <;> first | rfl | (simp [notDefer] at this)
/-- the run does a row that was pending -/
theorem pending_step {ro : Option Nat} (hP : PH P E) (F : RF ops rows) (I : Inv PI P ops rows ρ0 s0 w0 N n fr0 a0 d sv nb ps fr s ρ L a w) (h0 : EnvR ρ0 fr0.env a0) (hG : Glob P.globals.size ρ0) (hok : ∀ (i : Nat) (r : Row), rows[i]? = some r → operOk n P.globals.size r.o = true) (hnd : ro ≠ none → ∀ (i : Nat) (r : Row), rows[i]? = some r → notDefer r.o.op = true) (hps : pendOk E P s ps = true)
    {i : Nat} (hi : i ∈ Region.ready .any ops L) (hdi : d.testBit i = true) {Q : Exit → Act → World → Prop} {K : Act → World → Prop}
    (hQ : ∀ r σ, rows[i]? = some r → L.getD i false = false → i < L.size → (∀ j, r.before.testBit j = true → L.getD j false = true) → (∀ x ∈ r.o.op.operands, OR ρ σ a.eval x) → dstOk n r.o.dst = true → kindOp r.o.op = 3 → sv i = .tup [] → PI s i r.o σ →
      ∃ w', (execOp a.eval r.o).run P w = .ok .skip w' ∧ K (a.put r.o.dst undef) w')
    (hK : ∀ ρ' a' w', Inv PI P ops rows ρ0 s0 w0 N n fr0 a0 d sv nb ps fr s ρ' (L.setIfInBounds i true) a' w' → 
      ((ρ' = ρ ∧ w' = w ∧ ∀ r, rows[i]? = some r → kindOp r.o.op = 0 ∨ r.o.guard ≠ none) ∨ ∃ (r : Row) (b e : Nat) (o : Obj) (mk : Mk) (blk : SBlk) (σ : En), rows[i]? = some r ∧ kindOp r.o.op = 1 ∧ nb i = some b ∧ ρ b = none ∧ mkA r.o.op P σ = some (mk, blk) ∧ BR ρ 0 e blk (some o) ∧ ρ' = ρ.add b (w.heap.size, 0, e) ∧ w' = newB w o) → K a' w') : wpOpIn (Wd ro) 0 P ops Q i K a w := by
  obtain ⟨r, hr, ho, hLi, hlt, hbe⟩ := ready_before F I hi
  obtain ⟨σ, hσ, hor⟩ := I.pend i r hr hdi hLi
  have hreal := real_of I h0 hr hLi hbe hσ
  have hop := hok i r hr
  unfold operOk at hop
  rw [Bool.and_eq_true] at hop
  have hopd := opd_of (hG.mono I.ext.le) hop.2 hreal
  unfold wpOpIn
  simp only [ho]
  rcases hor with ⟨hw, hsv⟩ | ⟨hw, hk, hp⟩ | ⟨hw, hk, mk, blk, b, hmk, hnb, hsv, hn, hge, hg⟩ | ⟨hw, hk, hsv, hpi⟩
  · rw [wanted_sound hw hreal]
    simp only [Bool.false_eq_true, if_false]
    exact ⟨fun _ _ => trivial, hK ρ _ _ (inv_do F I hr hdi hLi hlt hbe hop.1 (by rw [hsv]; exact vrUndef) (Rho.le_refl ρ) I.rel I.ext I.below fun _ _ _ _ h => h) (.inl ⟨rfl, rfl, fun r' hr' => .inr fun e => by rw [hr] at hr'; cases hr'; rw [e] at hw; simp [wantedS] at hw⟩)⟩
  · rw [wanted_sound hw hreal]
    simp only [if_true]
    have hag := pendOk_mem hps _ hp
    unfold again at hag
    simp only at hag
    have hs := exec_sound hP.eok I.rel r.o hopd
    split at hag
    · rename_i x s' hex
      rw [hex] at hs
      cases hnx : Nat.beq s'.nx s.nx with
      | false => rw [hnx] at hag; simp at hag
      | true =>
        rw [hnx, cond_true] at hag
        obtain ⟨ρ', v, w', hres, hv, _, _, _, hpure⟩ := hs
        obtain ⟨rfl, rfl, rfl⟩ := hpure hk (Nat.eq_of_beq_eq_true hnx)
        have hxv := sameF_eq _ _ _ hag
        subst hxv
        refine ⟨fun _ _ => trivial, ?_⟩
        rw [semAt_eq (fun h => hnd h i r hr), hres, Oper.uponIn_value]
        exact hK _ _ _ (inv_do F I hr hdi hLi hlt hbe hop.1 hv (Rho.le_refl _) I.rel I.ext I.below fun _ _ _ _ h => h) (.inl ⟨rfl, rfl, fun r' hr' => by rw [hr] at hr'; cases hr'; exact .inl hk⟩)
    · cases hag
  · rw [wanted_sound hw hreal]
    simp only [if_true]
    obtain ⟨ob, e, hres, hB⟩ := mkA_ok (w := w) r.o hopd hmk
    refine ⟨fun _ _ => trivial, ?_⟩
    rw [semAt_eq (fun h => hnd h i r hr), hres, Oper.uponIn_value]
    have hb := (I.nblt i b hnb).1
    refine hK (ρ.add b (w.heap.size, 0, e)) _ _ (inv_do F I hr hdi hLi hlt hbe hop.1 (by rw [hsv]; exact valOf_sound (Rho.add_self _ _ _)) (Rho.le_add hn) (I.rel.birth hn hb hg hB) (I.ext.birth hge hn _) (I.below.trans (Below.newB I.rel.size)) fun k b' hk' hnb' hn' => ?_) (.inr ⟨r, b, e, ob, mk, blk, σ, hr, hk, hnb, hn, hmk, hB, rfl, rfl⟩)
    have hbb : b' ≠ b := fun e => by subst e; exact hk' (I.nbne k i b' hnb' hnb)
    rw [Rho.add_ne _ _ hbb]
    exact hn'
  · rw [wanted_sound hw hreal]
    simp only [if_true]
    obtain ⟨w', hres, hk'⟩ := hQ r σ hr hLi hlt hbe hopd hop.1 hk hsv hpi
    refine ⟨fun _ _ => trivial, ?_⟩
    rw [semAt_eq (fun h => hnd h i r hr), hres, Oper.uponIn_skip]
    exact hk'
/-- nothing is filled -/
def noPI : St → Nat → Oper → En → Prop := fun _ _ _ _ => False

/-! ## the end -/
theorem wipe_get : ∀ (rs : List Row) (env : En) (t : Nat), (wipe env rs).get t ≠ .bad → (∀ r ∈ rs, r.o.dst ≠ some t) ∧ (wipe env rs).get t = env.get t
  | [], env, t, _ => ⟨by simp, rfl⟩
  | r :: rs, env, t, h => by
    simp only [wipe] at h ⊢
    split at h
    · rename_i u hu
      obtain ⟨h1, h2⟩ := wipe_get rs (env.set u .bad) t h
      have hne : t ≠ u := fun e => by
        subst e
        rw [h2] at h
        rcases En.get_set_eq env t .bad with hg | hg <;> exact h hg
      refine ⟨fun q hq => ?_, by rw [h2, En.get_set_ne _ _ _ _ hne]⟩
      rcases List.mem_cons.1 hq with rfl | hq
      · rw [hu]; exact fun e => hne (by simpa using e.symm)
      · exact h1 q hq
    · rename_i hu
      obtain ⟨h1, h2⟩ := wipe_get rs env t h
      refine ⟨fun q hq => ?_, h2⟩
      rcases List.mem_cons.1 hq with rfl | hq
      · rw [hu]; simp
      · exact h1 q hq
theorem env_wiped (I : Inv PI P ops rows ρ0 s0 w0 N n fr0 a0 d sv nb ps fr s ρ L a w) (h0 : EnvR ρ0 fr0.env a0) : EnvR ρ (wipe fr0.env rows) a := by
  intro t ht
  obtain ⟨h1, h2⟩ := wipe_get rows fr0.env t ht
  rw [h2] at ht ⊢
  obtain ⟨v, h3, h4⟩ := h0 t ht
  have := I.rest t fun i r hr _ => h1 r (List.mem_of_getElem? hr)
  exact ⟨v, by rw [this]; exact h3, VR.mono I.ext.le _ _ h4⟩
theorem all_listed (F : RF ops rows) (hL : L.size = ops.size) (h : Region.ready .any ops L = []) : ∀ i, i < ops.size → L.getD i false = true := by
  intro i
  induction i using Nat.strongRecOn with
  | _ i ih =>
    intro hi
    cases hb : L.getD i false with
    | true => rfl
    | false =>
      exfalso
      have hrl : i < rows.length := by rw [F.len]; exact hi
      obtain ⟨r, hr⟩ : ∃ r, rows[i]? = some r := ⟨_, List.getElem?_eq_getElem hrl⟩
      obtain ⟨_, hro, _⟩ := F.at' i r hr
      have : i ∈ Region.ready .any ops L := by
        rw [mem_ready]
        refine ⟨?_, r.o, hro, fun e he hbind => ?_⟩
        · have hs : i < L.size := by rw [hL]; exact hi
          simp only [Array.getD_eq_getD_getElem?, Array.getElem?_eq_getElem hs] at hb ⊢
          exact hb
        · obtain ⟨h1, _⟩ := F.edge i r e hr he hbind
          exact ih e.on h1 (by omega)
      rw [h] at this
      cases this
theorem final_env (F : RF ops rows) (I : Inv PI P ops rows ρ0 s0 w0 N n fr0 a0 d sv nb ps fr s ρ L a w) (h0 : EnvR ρ0 fr0.env a0) (hall : ∀ i, i < ops.size → L.getD i false = true) : FrR ρ n fr a := by
  refine ⟨fun t ht => ?_, I.size, I.dfr⟩
  have hL : ∀ (i : Nat) (r : Row), rows[i]? = some r → L.getD i false = true := fun i r hr => hall i (by rw [← F.len]; exact (List.getElem?_eq_some_iff.1 hr).1)
  rcases I.env t ht with ⟨i, r, hr, _, hd, hv⟩ | ⟨hno, hv⟩
  · rw [hv]; exact I.real i r t hr (hL i r hr) hd
  · rw [hv] at ht ⊢
    obtain ⟨v, h3, h4⟩ := h0 t ht
    have := I.rest t fun i r hr _ => hno i r hr (I.LX i (hL i r hr))
    exact ⟨v, by rw [this]; exact h3, VR.mono I.ext.le _ _ h4⟩
/-- how many are still to be done -/
def todo (m : Nat) (L : Array Bool) : Nat := (List.range m).countP fun i => !(L.getD i false)
theorem countP_lt {p q : Nat → Bool} : ∀ {l : List Nat} {i : Nat}, i ∈ l → p i = true → q i = false → (∀ j, q j = true → p j = true) → l.countP q < l.countP p
  | [], i, h, _, _, _ => by simp at h
  | x :: l, i, h, hp, hq, hle => by
    have hmono : l.countP q ≤ l.countP p := List.countP_mono_left fun j _ => hle j
    rcases List.mem_cons.1 h with rfl | h
    · rw [List.countP_cons_of_pos hp, List.countP_cons_of_neg (by simp [hq])]
      omega
    · have ih := countP_lt h hp hq hle
      simp only [List.countP_cons]
      have : (if q x = true then 1 else 0) ≤ (if p x = true then 1 else 0) := by
        split
        · rename_i hx; rw [hle x hx]; simp
        · omega
      omega
theorem todo_set {m i : Nat} {L : Array Bool} (hi : i < m) (hs : i < L.size) (hf : L.getD i false = false) : todo m (L.setIfInBounds i true) < todo m L := by
  unfold todo
  refine countP_lt (i := i) (List.mem_range.2 hi) (by simp [hf]) ?_ ?_
  · have := (getD_set hs i).2 (.inr rfl)
    simp [this]
  · intro j hj
    have hj' : (L.setIfInBounds i true).getD j false = false := by simpa using hj
    have := (getD_set_false hs hj').1
    simp [this]
end Go.Sh
