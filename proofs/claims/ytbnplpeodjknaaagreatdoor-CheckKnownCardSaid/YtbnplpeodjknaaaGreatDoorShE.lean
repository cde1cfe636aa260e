/- Part of a proof that a closed law answers true: the evaluator of the first text is sound; this text is one step of it. No condition. -/
import Derived.Test.YtbnplpeodjknaaaGreatDoorShD
set_option linter.unusedSectionVars false
set_option linter.unusedSimpArgs false
set_option linter.unusedVariables false
namespace Go.Sh
variable [Opq]
open Go.RowKit (Below)
variable {I : Rho → World → Prop}

/-! ## operands -/
def EnvR (ρ : Rho) (env : En) (a : Act) : Prop := ∀ t, env.get t ≠ .bad → ∃ v, a.tmps[t]? = some v ∧ VR ρ (env.get t) v
def Glob (G : Nat) (ρ : Rho) : Prop := ∀ g, g < G → ∃ e, ρ g = some (g, 0, e)
theorem Glob.mono {G : Nat} {ρ ρ' : Rho} (h : ρ.le ρ') (hg : Glob G ρ) : Glob G ρ' := fun g k => let ⟨e, he⟩ := hg g k; ⟨e, h _ _ he⟩
theorem EnvR.mono {ρ ρ' : Rho} (h : ρ.le ρ') {env : En} {a : Act} (he : EnvR ρ env a) : EnvR ρ' env a := fun t ht => let ⟨v, h1, h2⟩ := he t ht; ⟨v, h1, VR.mono h _ _ h2⟩

theorem isBad_false {x : SV} (h : isBad x = false) : x ≠ .bad := fun e => by rw [e] at h; simp [isBad] at h
theorem isBad_of_ne {x : SV} (h : x ≠ .bad) : isBad x = false := by cases x <;> first | rfl | exact absurd rfl h
theorem ofV1_sound (ρ : Rho) (v : Value) (h : ofV1 v ≠ .bad) : VR ρ (ofV1 v) v := by
  cases v with
  | bool b => simp [ofV1, VR]
  | int k n => simp [ofV1, VR]
  | float k n => simp [ofV1, VR]
  | string s => simp only [ofV1, VR]; exact ⟨s, rfl, rfl, rfl⟩
  | pointer a => cases a <;> simp [ofV1, VR] at h ⊢
  | slice a l c =>
    cases a with
    | none => cases l <;> cases c <;> simp [ofV1, VR] at h ⊢
    | some a => simp [ofV1] at h
  | map r => cases r <;> simp [ofV1, VR] at h ⊢
  | nilFunc => simp [ofV1, VR]
  | nilIface => simp [ofV1, VR]
  | func f a c =>
    simp only [ofV1] at h ⊢
    cases hc : (a.isEmpty && c.isEmpty) with
    | false => rw [hc] at h; simp at h
    | true =>
      rw [cond_true]
      rw [Bool.and_eq_true] at hc
      have h1 : a = #[] := by simpa using hc.1
      have h2 : c = #[] := by simpa using hc.2
      subst h1 h2
      simp only [VR, VRs]
      exact ⟨[], [], rfl, rfl, rfl⟩
  | _ => simp [ofV1] at h
theorem map_ofV1_sound (ρ : Rho) : ∀ (l : List Value), anyBad (l.map ofV1) = false → VRs ρ (l.map ofV1) l
  | [], _ => VRs.nil
  | v :: vs, h => by
    simp only [List.map_cons, anyBad] at h
    cases hb : isBad (ofV1 v) with
    | true => rw [hb] at h; simp at h
    | false =>
      rw [hb, cond_false] at h
      exact VRs.cons (ofV1_sound ρ v (isBad_false hb)) (map_ofV1_sound ρ vs h)
theorem aggV_ne {l : List SV} (h : aggV l ≠ .bad) : anyBad l = false ∧ aggV l = .agg l := by
  unfold aggV at h ⊢
  cases hb : anyBad l with
  | true => rw [hb] at h; simp at h
  | false => simp
theorem ofV_sound (ρ : Rho) (v : Value) (h : ofV v ≠ .bad) : VR ρ (ofV v) v := by
  cases v with
  | agg cs =>
    simp only [ofV] at h ⊢
    obtain ⟨h1, h2⟩ := aggV_ne h
    rw [h2]
    simp only [VR]
    exact ⟨cs.toList, map_ofV1_sound ρ _ h1, by simp⟩
  | _ => simp only [ofV] at h ⊢; exact ofV1_sound ρ _ h
theorem anyBad_mem : ∀ {l : List SV}, anyBad l = false → ∀ x ∈ l, x ≠ .bad
  | [], _, x, hx => by simp at hx
  | y :: ys, h, x, hx => by
    simp only [anyBad] at h
    cases hb : isBad y with
    | true => rw [hb] at h; simp at h
    | false =>
      rw [hb, cond_false] at h
      rcases List.mem_cons.1 hx with rfl | hx
      · exact isBad_false hb
      · exact anyBad_mem h x hx

/-- what is known of an operand -/
def OR (ρ : Rho) (env : En) (re : Operand → Value) (x : Operand) : Prop := evO x env ≠ .bad → VR ρ (evO x env) (re x)
def ORs (ρ : Rho) (env : En) (re : Operand → Value) (xs : List Operand) : Prop := ∀ x ∈ xs, OR ρ env re x
theorem ORs.vrs {ρ : Rho} {env : En} {re : Operand → Value} : ∀ {xs : List Operand}, ORs ρ env re xs → anyBad (evOs xs env) = false → VRs ρ (evOs xs env) (xs.map re)
  | [], _, _ => VRs.nil
  | x :: xs, h, hb => by
    simp only [evOs, List.map_cons, anyBad] at hb
    cases hx : isBad (evO x env) with
    | true => rw [hx] at hb; simp at hb
    | false =>
      rw [hx, cond_false] at hb
      exact VRs.cons (h x (by simp) (isBad_false hx)) (ORs.vrs (fun y hy => h y (by simp [hy])) hb)
theorem OR.eval {ρ : Rho} {env : En} {a : Act} {G : Nat} (hE : EnvR ρ env a) (hG : Glob G ρ) (x : Operand) (hx : ∀ g, x = .global g → g < G) : OR ρ env a.eval x := fun h => by
  cases x with
  | tmp t =>
    obtain ⟨v, h1, h2⟩ := hE t h
    have he : a.eval (.tmp t) = v := by simp [Act.eval, h1]
    rw [he]; exact h2
  | const v => exact ofV_sound ρ v h
  | global g =>
    obtain ⟨e, he⟩ := hG g (hx g rfl)
    simp only [evO, VR]
    exact ⟨g, 0, e, he, rfl⟩
  | func f => simp only [evO, VR, VRs]; exact ⟨[], [], rfl, rfl, rfl⟩

/-! ## the outcome of an operation -/
section
variable (P : Program) (ρ : Rho) (N : Bound I) (s : St) (w : World) (k0 : Prop)
def RV (res : Result Next) (x : SV) (s' : St) : Prop :=
  ∃ ρ' v w', res = .ok (.value v) w' ∧ VR ρ' x v ∧ Rel ρ' N s' w' ∧ Ext ρ s ρ' s' ∧ Below N w w' ∧ (k0 → s'.nx = s.nx → s' = s ∧ w' = w ∧ ρ' = ρ)
def RR (res : Result Next) : R → Prop
  | .v x s' => RV ρ N s w k0 res x s'
  | .skip s' => ∃ ρ' w', res = .ok .skip w' ∧ Rel ρ' N s' w' ∧ Ext ρ s ρ' s' ∧ Below N w w'
  | .call f args s' => s' = s ∧ ∃ args' : List Value, VRs ρ args args' ∧ res = (callFunc f args'.toArray).run P w
  | .rnd b args s' => s' = s ∧ ∃ (args' : List Value) (r base e : Nat), ρ b = some (r, base, e) ∧ VRs ρ args args' ∧ res = (Instr.yield r args'.toArray).run P w
  | .dfr f args s' => s' = s ∧ ∃ (a' c' : List Value), VRs ρ args (a' ++ c') ∧ res = .ok (.defer { target := .fn (.func f) c'.toArray, args := a'.toArray }) w
  | .rcv s' => s' = s ∧ res = .ok .recover w
  | .pan x s' => s' = s ∧ ∃ v, res = .halt (.panic v) w ∧ VR ρ x v
  | .fork x s' y t' => RV ρ N s w False res x s' ∨ RV ρ N s w False res y t'
  | .bad _ => True
end
variable {P : Program} {ρ : Rho} {N : Bound I} {s : St} {w : World} {k0 : Prop}
theorem RV.pure (H : Rel ρ N s w) {res : Result Next} {x : SV} {v : Value} (h : res = .ok (.value v) w) (hv : VR ρ x v) : RV ρ N s w k0 res x s :=
  ⟨ρ, v, w, h, hv, H, Ext.refl ρ s, Below.refl N w, fun _ _ => ⟨rfl, rfl, rfl⟩⟩
theorem RR.rv (H : Rel ρ N s w) {res : Result Next} {x : SV} {why : String} (h : x ≠ .bad → ∃ v, res = .ok (.value v) w ∧ VR ρ x v) : RR P ρ N s w k0 res (rv x s why) := by
  unfold Sh.rv
  cases hb : isBad x with
  | true => exact trivial
  | false => obtain ⟨v, h1, h2⟩ := h (isBad_false hb); exact RV.pure H h1 h2

/-- the model's run of an operation that gives a value -/
theorem run_v {m : Sem Value} {v : Value} {w' : World} (h : m.run P w = .ok v w') : (do pure (Next.value (← m)) : Sem Next).run P w = .ok (.value v) w' := by
  simp [h]
theorem run_u {m : Sem Unit} {w' : World} (h : m.run P w = .ok () w') : (do m; pure Next.skip : Sem Next).run P w = .ok .skip w' := by
  simp [h]
theorem run_v_halt {m : Sem Value} {h : Halt} {w' : World} (hm : m.run P w = .halt h w') : (do pure (Next.value (← m)) : Sem Next).run P w = .halt h w' := by
  simp [hm]

/-! ## operations that touch no memory -/
variable {env : En} {re : Operand → Value} {d : Option Tmp} {ty : TypeId} {pos : String} {af : Array Edge} {gd : Option (Nat × Bool)}
theorem move_sound (H : Rel ρ N s w) {x : Operand} (hx : OR ρ env re x) : RR P ρ N s w k0 ((execOp re ⟨d, .move x, ty, pos, af, gd⟩).run P w) (exMove x P env s) :=
  RR.rv H fun h => ⟨re x, rfl, hx h⟩
theorem assign_sound (H : Rel ρ N s w) {x : Operand} (hx : OR ρ env re x) : RR P ρ N s w k0 ((execOp re ⟨d, .assign x, ty, pos, af, gd⟩).run P w) (exMove x P env s) :=
  RR.rv H fun h => ⟨re x, rfl, hx h⟩
theorem pick_sound (H : Rel ρ N s w) {c a b : Operand} (hc : OR ρ env re c) (ha : OR ρ env re a) (hb : OR ρ env re b) :
    RR P ρ N s w k0 ((execOp re ⟨d, .pick c a b, ty, pos, af, gd⟩).run P w) (exPick c a b P env s) := by
  unfold exPick
  split
  · rename_i t ht
    have hc' := hc (by rw [ht]; simp)
    rw [ht] at hc'
    simp only [VR] at hc'
    refine RR.rv H fun h => ?_
    simp only [execOp, hc']
    cases t with
    | true => exact ⟨re a, by simp [asBool], ha h⟩
    | false => exact ⟨re b, by simp [asBool], hb h⟩
  · exact trivial
theorem nilCheck_sound (H : Rel ρ N s w) {x : Operand} (hx : OR ρ env re x) : RR P ρ N s w k0 ((execOp re ⟨d, .nilCheck x, ty, pos, af, gd⟩).run P w) (exNil x P env s) := by
  unfold exNil
  split
  · rename_i b off hb
    have h := hx (by rw [hb]; simp)
    rw [hb] at h
    have h0 := h
    simp only [VR] at h
    obtain ⟨r, base, e, hr, hv⟩ := h
    exact RV.pure H (v := re x) (by simp only [execOp, hv]; rfl) h0
  · rename_i f a b hb
    have h := hx (by rw [hb]; simp)
    rw [hb] at h
    have h0 := h
    simp only [VR] at h
    obtain ⟨a', c', _, _, hv⟩ := h
    exact RV.pure H (v := re x) (by simp only [execOp, hv]; rfl) h0
  · rename_i t v hb
    have h := hx (by rw [hb]; simp)
    rw [hb] at h
    have h0 := h
    simp only [VR] at h
    obtain ⟨y, _, hv⟩ := h
    exact RV.pure H (v := re x) (by simp only [execOp, hv]; rfl) h0
  · exact trivial
theorem iface_sound (H : Rel ρ N s w) {t : TypeId} {x : Operand} (hx : OR ρ env re x) : RR P ρ N s w k0 ((execOp re ⟨d, .makeInterface t x, ty, pos, af, gd⟩).run P w) (exIface t x P env s) := by
  unfold exIface
  split
  · exact trivial
  · rename_i u hni hu
    split
    · exact trivial
    · rename_i v hv
      have h := hx (fun e => hv e)
      refine RV.pure H (v := .iface t (re x)) ?_ (by simp only [VR]; exact ⟨_, h, rfl⟩)
      simp only [execOp, Instr.makeInterface]
      apply run_v
      simp only [Sem.run_bind, run_underlying hu, Result.andThen_ok]
      cases u <;> first | rfl | (rename_i ms; exact absurd hu (hni ms))
  · exact trivial
theorem func_sound (H : Rel ρ N s w) {f : Fn} {first cap : Array Operand} (h1 : ORs ρ env re first.toList) (h2 : ORs ρ env re cap.toList) :
    RR P ρ N s w k0 ((execOp re ⟨d, .makeFunc f first cap, ty, pos, af, gd⟩).run P w) (exFunc f first cap P env s) := by
  unfold exFunc
  cases hb : (anyBad (evOs first.toList env) || anyBad (evOs cap.toList env)) with
  | true => exact trivial
  | false =>
    rw [Bool.or_eq_false_iff] at hb
    refine RV.pure H (v := .func f (first.map re) (cap.map re)) (by simp [execOp, Instr.makeFunc]) ?_
    simp only [VR]
    exact ⟨_, _, h1.vrs hb.1, h2.vrs hb.2, by congr 1 <;> simp [← Array.toList_map]⟩
theorem unOp_sound (H : Rel ρ N s w) {op : UnOp} {t : TypeId} {x : Operand} (hx : OR ρ env re x) : RR P ρ N s w k0 ((execOp re ⟨d, .unOp op t x, ty, pos, af, gd⟩).run P w) (exUn op t x P env s) := by
  unfold exUn
  refine RR.rv H fun h => ?_
  have hx' : evO x env ≠ .bad := fun e => h (by rw [e]; cases op <;> rfl)
  have hv := hx hx'
  cases op <;> cases he : evO x env <;> rw [he] at h <;> simp [unV] at h <;> rw [he] at hv <;> simp only [VR] at hv <;> simp only [execOp, hv, unV]
  · rename_i k n
    refine ⟨.int k (k.wrap (0 - n)), run_v rfl, ?_⟩
    simp only [VR, wrapF_eq]
    congr 2
    show 0 - n = -n
    omega
  · rename_i b; exact ⟨.bool (!b), run_v rfl, by simp [VR]⟩
theorem nthV_some {l : List SV} : ∀ {n : Nat}, nthV n l ≠ .bad → l[n]? = some (nthV n l) := by
  induction l with
  | nil => intro n h; cases n <;> simp [nthV] at h
  | cons x xs ih =>
    intro n h
    cases n with
    | zero => simp [nthV]
    | succ n => simp only [nthV] at h ⊢; simpa using ih h
theorem extract_sound (H : Rel ρ N s w) {t : Operand} {i : Nat} (hx : OR ρ env re t) : RR P ρ N s w k0 ((execOp re ⟨d, .extract t i, ty, pos, af, gd⟩).run P w) (exExtract t i P env s) := by
  unfold exExtract
  split
  · rename_i vs hv
    have h := hx (by rw [hv]; simp)
    rw [hv] at h
    simp only [VR] at h
    obtain ⟨l, hl, hre⟩ := h
    refine RR.rv H fun hb => ?_
    obtain ⟨v, h1, h2⟩ := hl.get _ _ (nthV_some hb)
    refine ⟨v, ?_, h2⟩
    simp only [execOp, hre, Instr.extract]
    apply run_v
    simp [h1]
  · exact trivial
theorem panic_sound {x : Operand} (hx : OR ρ env re x) : RR P ρ N s w k0 ((execOp re ⟨d, .panic x, ty, pos, af, gd⟩).run P w) (exPanic x P env s) := by
  unfold exPanic
  split
  · rename_i t v hv
    have h := hx (by rw [hv]; simp)
    rw [hv] at h
    have h0 := h
    simp only [VR] at h
    obtain ⟨y, _, hre⟩ := h
    refine ⟨rfl, re x, ?_, h0⟩
    simp only [execOp, hre, Instr.panic]
    exact run_v_halt rfl
  · exact trivial
theorem fieldAddr_sound (H : Rel ρ N s w) {t : TypeId} {x : Operand} {f : Nat} (hx : OR ρ env re x) :
    RR P ρ N s w k0 ((execOp re ⟨d, .fieldAddr t x f, ty, pos, af, gd⟩).run P w) (exFieldAddr t x f P env s) := by
  unfold exFieldAddr
  split
  · rename_i fs hu
    split
    · rename_i o sz b off hp hv
      have h := hx (by rw [hv]; simp)
      rw [hv] at h
      simp only [VR] at h
      obtain ⟨r, base, e, hb, hre⟩ := h
      unfold placeF at hp
      split at hp
      · rename_i fd hf
        split at hp
        · rename_i n hn
          cases hp
          refine RV.pure H (v := .pointer (some ⟨r, base + (off + fd.offset), none⟩)) ?_ (by simp only [VR]; exact ⟨r, base, e, hb, rfl⟩)
          simp only [execOp, hre, Instr.fieldAt]
          apply run_v
          have hi : ∃ i, P.info? fd.type = some i ∧ i.size = sz + 1 := by
            unfold size? at hn
            split at hn
            · rename_i i hi; exact ⟨i, hi, by simpa using hn⟩
            · cases hn
          obtain ⟨i, hi, hs⟩ := hi
          simp [run_underlying hu, hf, Instr.sureAddr, fieldPlace, sizeOf, typeInfo, hi, hs, add_addr, Nat.add_assoc]
        · cases hp
      · cases hp
    · exact trivial
  · exact trivial

end Go.Sh
