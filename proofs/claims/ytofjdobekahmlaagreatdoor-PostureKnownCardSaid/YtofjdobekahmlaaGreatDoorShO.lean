/- Part of a proof that a closed law answers true: the evaluator of the first text is sound; this text is one step of it. No condition. -/
import Derived.Test.YtofjdobekahmlaaGreatDoorShN
namespace Go.Sh
open Go.RowKit (Below)
variable {I : Rho → World → Prop}
variable {P : Program} {ρ : Rho} {N : Bound I} {s : St} {w : World} {k0 : Prop}
variable {env : En} {re : Operand → Value} {d : Option Tmp} {ty : TypeId} {pos : String} {af : Array Edge} {gd : Option (Nat × Bool)}

/-! ## calls -/
theorem anyBad_ne {l : List SV} (h : anyBad l = false) {i : Nat} {x : SV} (hx : l[i]? = some x) : x ≠ .bad := anyBad_mem h x (List.mem_of_getElem? hx)
theorem run_builtin {c : Call} {b : Builtin} (hc : c.callee = .builtin b) : ∃ consts, (execOp re ⟨d, .call c, ty, pos, af, gd⟩).run P w = (builtin b c.argTypes ty consts (c.args.map re)).run P w := by
  refine ⟨?_, ?_⟩
  rotate_left
  · simp only [execOp, resolve, hc, Sem.run_bind, Sem.run_pure, Result.andThen_ok, invoke]
    rfl
theorem list1 {ρ : Rho} {x : SV} {l : List Value} (h : VRs ρ [x] l) : ∃ v, l = [v] ∧ VR ρ x v := by
  obtain ⟨v, vs, h1, h2, rfl⟩ := h.cons_inv
  rw [VRs.nil_iff] at h2
  subst h2
  exact ⟨v, rfl, h1⟩
theorem list2 {ρ : Rho} {x y : SV} {l : List Value} (h : VRs ρ [x, y] l) : ∃ u v, l = [u, v] ∧ VR ρ x u ∧ VR ρ y v := by
  obtain ⟨u, vs, h1, h2, rfl⟩ := h.cons_inv
  obtain ⟨v, rfl, h3⟩ := list1 h2
  exact ⟨u, v, rfl, h1, h3⟩
def isPure (b : Builtin) : Prop := b = .len ∨ b = .cap ∨ b = .min ∨ b = .max
theorem builtin_sound (H : Rel ρ N s w) {b : Builtin} {ts : Array TypeId} {ty : TypeId} {consts : Array Bool} {args : List SV} {vs : Array Value} (hv : VRs ρ args vs.toList) (hk : k0 → isPure b) :
    RR P ρ N s w k0 ((builtin b ts ty consts vs).run P w) (builtinS b P s ts.toList args) := by
  have ts0 : ∀ {t : TypeId} {r : List TypeId}, ts.toList = t :: r → ts[0]? = some t := fun h => by rw [← Array.getElem?_toList, h]; rfl
  have ts1 : ∀ {t u : TypeId} {r : List TypeId}, ts.toList = t :: u :: r → ts[1]? = some u := fun h => by rw [← Array.getElem?_toList, h]; rfl
  have nk : ¬ isPure b → ¬ k0 := fun h k => h (hk k)
  cases b <;> simp only [builtinS]
  case len =>
    split
    · rename_i t r x hts
      obtain ⟨v, hl, hvx⟩ := list1 hv
      have hvs : vs = #[v] := by apply Array.ext'; simpa using hl
      subst hvs
      refine rN_RR H fun m hm => ?_
      have := len_sound (w := w) (ty := ty) H (ts0 hts) (vx := v) (fun _ => hvx) hm
      simp only [builtin]
      exact run_v this
    · exact trivial
  case cap =>
    split
    · rename_i t r x hts
      obtain ⟨v, hl, hvx⟩ := list1 hv
      have hvs : vs = #[v] := by apply Array.ext'; simpa using hl
      subst hvs
      refine cap_sound (ty := ty) H (ts0 hts) (vx := v) (fun _ => hvx) fun u w' hu => ?_
      simp only [builtin]
      exact run_v hu
    · exact trivial
  case append =>
    split
    · rename_i t u r x y hts
      obtain ⟨vx, vy, hl, hvx, hvy⟩ := list2 hv
      have hvs : vs = #[vx, vy] := by apply Array.ext'; simpa using hl
      subst hvs
      refine append_sound (ty := ty) H (ts0 hts) (ts1 hts) (vx := vx) (vy := vy) (fun _ => hvx) (fun _ => hvy) (nk (by simp [isPure])) fun u w' hu => ?_
      simp only [builtin]
      exact run_v hu
    · exact trivial
  case copy =>
    split
    · rename_i t r x y hts
      obtain ⟨vx, vy, hl, hvx, hvy⟩ := list2 hv
      have hvs : vs = #[vx, vy] := by apply Array.ext'; simpa using hl
      subst hvs
      refine copy_sound (ty := ty) H (ts0 hts) (vx := vx) (vy := vy) (fun _ => hvx) (fun _ => hvy) (nk (by simp [isPure])) fun u w' hu => ?_
      simp only [builtin]
      exact run_v hu
    · exact trivial
  case min =>
    refine RR.rv H fun h => ?_
    obtain ⟨v, h1, h2⟩ := min_sound (P := P) (w := w) (ts := ts) (ty := ty) hv h
    refine ⟨v, ?_, h2⟩
    simp only [builtin]
    exact run_v (by simpa using h1)
  case max =>
    refine RR.rv H fun h => ?_
    obtain ⟨v, h1, h2⟩ := max_sound (P := P) (w := w) (ts := ts) (ty := ty) hv h
    refine ⟨v, ?_, h2⟩
    simp only [builtin]
    exact run_v (by simpa using h1)
  case recover => exact ⟨rfl, by simp [builtin]⟩
  case panic =>
    split
    · rename_i t x
      obtain ⟨v, hl, hvx⟩ := list1 hv
      have hvs : vs = #[v] := by apply Array.ext'; simpa using hl
      subst hvs
      refine ⟨rfl, v, ?_, hvx⟩
      simp only [VR] at hvx
      obtain ⟨y, _, rfl⟩ := hvx
      simp only [builtin]
      apply run_v_halt
      simp [Instr.panic, goPanic]
    · exact trivial
  all_goals exact trivial
theorem callS_sound {f : Operand} (hf : OR ρ env re f) {args : List SV} {vs : Array Value} (hv : VRs ρ args vs.toList) :
    RR P ρ N s w k0 ((do let d ← Deferred.ofValue (re f) vs; invoke d.target d.args : Sem Next).run P w) (callS s (evO f env) args) := by
  unfold callS
  split
  · rename_i g first cap he
    have h := hf (by rw [he]; simp)
    rw [he] at h
    simp only [VR] at h
    obtain ⟨a', c', ha, hc, hre⟩ := h
    refine ⟨rfl, a' ++ vs.toList ++ c', (ha.append hv).append hc, ?_⟩
    rw [hre]
    simp only [Deferred.ofValue, Sem.run_bind, Sem.run_pure, Result.andThen_ok, invoke]
    congr 2
    apply Array.ext'
    simp
  · exact trivial
theorem call_sound (H : Rel ρ N s w) {c : Call} (ha : ORs ρ env re c.args.toList) (hf : ∀ f, c.callee = .value f → OR ρ env re f) (hk : k0 → ∃ b, c.callee = .builtin b ∧ isPure b) :
    RR P ρ N s w k0 ((execOp re ⟨d, .call c, ty, pos, af, gd⟩).run P w) (exCall c P env s) := by
  unfold exCall
  cases hb : anyBad (evOs c.args.toList env) with
  | true => simp only [hb]; exact trivial
  | false =>
    simp only [hb, cond_false]
    have hvs : VRs ρ (evOs c.args.toList env) (c.args.map re).toList := by rw [Array.toList_map]; exact ha.vrs hb
    unfold callWith
    cases hc : c.callee with
    | builtin b =>
      obtain ⟨consts, hrun⟩ := run_builtin (P := P) (w := w) (re := re) (d := d) (ty := ty) (pos := pos) (af := af) (gd := gd) hc
      rw [hrun]
      exact builtin_sound H hvs fun k => by obtain ⟨b', h1, h2⟩ := hk k; rw [hc] at h1; cases h1; exact h2
    | value f =>
      have := callS_sound (P := P) (N := N) (s := s) (w := w) (k0 := k0) (hf f hc) hvs
      simp only [execOp, resolve, hc]
      exact this
    | invoke r m => exact trivial
theorem defer_sound {c : Call} (ha : ORs ρ env re c.args.toList) (hf : ∀ f, c.callee = .value f → OR ρ env re f) :
    RR P ρ N s w k0 ((execOp re ⟨d, .defer c, ty, pos, af, gd⟩).run P w) (exDefer c P env s) := by
  unfold exDefer
  cases hc : c.callee with
  | builtin b => exact trivial
  | invoke r m => exact trivial
  | value f =>
    simp only
    cases hb : anyBad (evOs c.args.toList env) with
    | true => exact trivial
    | false =>
      simp only [cond_false]
      have hvs : VRs ρ (evOs c.args.toList env) (c.args.map re).toList := by rw [Array.toList_map]; exact ha.vrs hb
      unfold callS
      split
      · rename_i g first cap he
        have h := hf f hc (by rw [he]; simp)
        rw [he] at h
        simp only [VR] at h
        obtain ⟨a', c', ha', hc', hre⟩ := h
        refine ⟨rfl, a' ++ (c.args.map re).toList, c', (ha'.append hvs).append hc', ?_⟩
        simp only [execOp, resolve, hc, hre, Deferred.ofValue, Sem.run_bind, Sem.run_pure, Result.andThen_ok]
        congr 3
        apply Array.ext'
        simp
      · exact trivial

theorem field_sound (H : Rel ρ N s w) {t : TypeId} {x : Operand} {f : Nat} (hx : OR ρ env re x) : RR P ρ N s w k0 ((execOp re ⟨d, .field t x f, ty, pos, af, gd⟩).run P w) (exField t x f P env s) := by
  unfold exField
  split
  · rename_i fs cs hu hv
    have h := hx (by rw [hv]; simp)
    rw [hv] at h
    simp only [VR] at h
    obtain ⟨l, hl, hre⟩ := h
    split
    · rename_i fd hf
      refine RR.rv H fun hb => ?_
      obtain ⟨v, h1, h2⟩ := partV_sound (l := l.toArray) (by simpa using hl) hb
      refine ⟨v, ?_, h2⟩
      simp only [execOp, hre]
      apply run_v
      simp [Instr.field, run_underlying hu, hf, asAgg, h1]
    · exact trivial
  · exact trivial

/-! ## every operation -/
theorem mem_list1 {x : Operand} {xs : List Operand} (h : ORs ρ env re (x :: xs)) : OR ρ env re x := h x (by simp)
theorem exec_sound {E : TypeId → Bool} (hE : EOk P E) (H : Rel ρ N s w) (o : Oper) (ho : ∀ x ∈ o.op.operands, OR ρ env re x) :
    RR P ρ N s w (kindOp o.op = 0) ((execOp re o).run P w) (exec E o.op P env s) := by
  obtain ⟨d, op, ty, pos, af, gd⟩ := o
  simp only at ho
  cases op <;> simp only [exec] <;> (try exact trivial)
  case move x => exact move_sound H (ho x (by simp [Op.operands]))
  case assign x => exact assign_sound H (ho x (by simp [Op.operands]))
  case pick c a b => exact pick_sound H (ho c (by simp [Op.operands])) (ho a (by simp [Op.operands])) (ho b (by simp [Op.operands]))
  case alloc e => exact newR_sound H fun mk blk h => alloc_ok (env := env) h
  case box e x => exact newR_sound H fun mk blk h => box_ok (ho x (by simp [Op.operands])) h
  case build t ps => exact build_sound H (fun x hx => ho x (by simpa [Op.operands] using hx))
  case buildSlice t n ps => exact newR_sound H fun mk blk h => buildSlice_ok (fun x hx => ho x (by simpa [Op.operands] using hx)) h
  case load t a => exact load_sound H (ho a (by simp [Op.operands]))
  case store t a x => exact store_sound H (ho a (by simp [Op.operands])) (ho x (by simp [Op.operands]))
  case nilCheck x => exact nilCheck_sound H (ho x (by simp [Op.operands]))
  case binOp op t x y u => exact bin_sound hE H (ho x (by simp [Op.operands])) (ho y (by simp [Op.operands]))
  case unOp op t x => exact unOp_sound H (ho x (by simp [Op.operands]))
  case convert a b x => exact conv_sound H (ho x (by simp [Op.operands]))
  case makeInterface t x => exact iface_sound H (ho x (by simp [Op.operands]))
  case makeFunc f a b => exact func_sound H (fun x hx => ho x (by simp only [Op.operands, Array.mem_append]; left; simpa using hx)) (fun x hx => ho x (by simp only [Op.operands, Array.mem_append]; right; simpa using hx))
  case makeMap t r => exact newR_sound H fun mk blk h => makeMap_ok (env := env) h
  case makeSlice t l c => exact newR_sound H fun mk blk h => makeSlice_ok (ho l (by simp [Op.operands])) (ho c (by simp [Op.operands])) h
  case slice t x l h m =>
    exact slice_sound H (ho x (by simp [Op.operands])) (fun y hy => ho y (by subst hy; simp [Op.operands])) (fun y hy => ho y (by subst hy; simp [Op.operands])) (fun y hy => ho y (by subst hy; simp [Op.operands]))
  case fieldAddr t x f => exact fieldAddr_sound H (ho x (by simp [Op.operands]))
  case field t x f => exact field_sound H (ho x (by simp [Op.operands]))
  case indexAddr t x i => exact indexAddr_sound H (ho x (by simp [Op.operands])) (ho i (by simp [Op.operands]))
  case index t x i => exact index_sound H (ho x (by simp [Op.operands])) (ho i (by simp [Op.operands]))
  case lookup t x k ok => exact lookup_sound hE H (ho x (by simp [Op.operands])) (ho k (by simp [Op.operands]))
  case mapUpdate t m k v =>
    unfold exMapUpdate
    split
    · exact trivial
    · rename_i x hx
      exact mapPut_sound hE H (ho m (by simp [Op.operands])) (ho k (by simp [Op.operands])) (ho v (by simp [Op.operands]) (fun e => hx e)) fun w' hw => by simp only [execOp]; exact run_u hw
  case insert t m k v =>
    unfold exMapUpdate
    split
    · exact trivial
    · rename_i x hx
      exact mapPut_sound hE H (ho m (by simp [Op.operands])) (ho k (by simp [Op.operands])) (ho v (by simp [Op.operands]) (fun e => hx e)) fun w' hw => by simp only [execOp]; exact run_u hw
  case mapEntry t m k =>
    unfold exMapEntry
    exact mapEnt_sound hE H (ho m (by simp [Op.operands])) (ho k (by simp [Op.operands])) (by simp [kindOp]) fun v w' hw => by simp only [execOp]; exact run_v hw
  case entryStore t m st v =>
    unfold exEntryStore
    split
    · exact trivial
    · rename_i x hx
      exact entSt_sound (t := t) H (ho m (by simp [Op.operands])) (fun n hn => (ho st (by simp [Op.operands])).asN hn) (ho v (by simp [Op.operands]) (fun e => hx e)) fun w' hw => by simp only [execOp]; exact run_u hw
  case range t x => exact range_sound H (ho x (by simp [Op.operands]))
  case next it b => exact next_sound H (ho it (by simp [Op.operands])) (by simp [kindOp])
  case typeAssert x t u ok => exact assert_sound H (ho x (by simp [Op.operands]))
  case extract t i => exact extract_sound H (ho t (by simp [Op.operands]))
  case panic x => exact panic_sound (ho x (by simp [Op.operands]))
  case call c =>
    refine call_sound H (fun x hx => ho x (by simp only [Op.operands, Call.operands, Array.mem_append]; right; simpa using hx)) (fun f hf => ho f (by simp [Op.operands, Call.operands, hf])) fun hk => ?_
    obtain ⟨callee, args, at'⟩ := c
    cases callee with
    | builtin b => cases b <;> simp [kindOp] at hk <;> exact ⟨_, rfl, by simp [isPure]⟩
    | value f => simp [kindOp] at hk
    | invoke r m => simp [kindOp] at hk
  case defer c => exact defer_sound (fun x hx => ho x (by simp only [Op.operands, Call.operands, Array.mem_append]; right; simpa using hx)) (fun f hf => ho f (by simp [Op.operands, Call.operands, hf]))
end Go.Sh
