/- Part of a proof that a closed law answers true: the evaluator of the first text is sound; this text is one step of it. No condition. -/
import Derived.Test.YtbnplpeodjknaaaGreatDoorShK
set_option linter.unusedSectionVars false
set_option linter.unusedSimpArgs false
set_option linter.unusedVariables false
namespace Go.Sh
variable [Opq]
open Go.RowKit (Below)
variable {I : Rho → World → Prop}
variable {P : Program} {ρ : Rho} {N : Bound I} {s : St} {w : World} {k0 : Prop}

theorem repl_zero {z : List SV} {zc : Array Value} (h : VRs ρ z zc.toList) (n : Nat) (hz : 0 < z.length) : VRs ρ (repl z n) (Builtin.zeroCells zc n).toList := by
  have hl := h.len
  simp only [Array.length_toList] at hl
  have := repl_vrs h n hz
  unfold Builtin.zeroCells
  rw [hl]
  rw [hl] at this
  exact this
/-- the second operand -/
theorem srcA_sound (H : Rel ρ N s w) {i : TypeInfo} (hZ : ZAt i) {t u e : TypeId} {ts : Array TypeId} {n : Nat} {y : SV} {new : List SV} {v : Value} (h0 : ts[0]? = some t) (h1 : ts[1]? = some u) (ht : P.underlying t = some (.slice e)) (hi : P.info? e = some i)
    (h : srcA P s e u i.size y = some (n, new)) (hv : y ≠ .bad → VR ρ y v) (hn : n ≤ 1048576) (hby : i.bytes ≤ 1048576) :
    new.length = n * i.size ∧ (∃ l : Array Value, VRs ρ new l.toList ∧ Src P w ts i e t v n l) ∧ ∃ l : Array Value, VRs ρ new l.toList ∧ SrcG P w ts i e t v n l := by
  obtain ⟨z, hz, hzs⟩ := id hZ
  unfold srcA at h
  split at h
  · rename_i du hu
    cases hd : isIntD du with
    | true =>
      rw [hd, cond_true] at h
      split at h
      · rename_i k m
        cases hm : Nat.ble m 1048576 with
        | false => rw [hm] at h; simp at h
        | true =>
          rw [hm, cond_true] at h
          split at h
          · rename_i zs hzz
            cases hc : (Nat.beq zs.length i.size && Nat.ble 1 i.size) with
            | false => rw [hc] at h; simp at h
            | true =>
              rw [hc] at h
              cases h
              rw [Bool.and_eq_true] at hc
              have c1 := Nat.eq_of_beq_eq_true hc.1
              have c2 := Nat.le_of_ble_eq_true hc.2
              obtain ⟨i', zv, hi', hz', hr, hvz⟩ := zeroCs_some hzz
              rw [hi] at hi'; cases hi'
              rw [hz] at hz'; cases hz'
              have hvv := hv (by simp)
              simp only [VR] at hvv
              subst hvv
              refine ⟨by rw [repl_len, c1], ⟨Builtin.zeroCells z.cells n, repl_zero (hvz ρ) n (by omega), ⟨?_⟩⟩, Builtin.zeroCells z.cells n, repl_zero (hvz ρ) n (by omega), ⟨?_⟩⟩
              · intro ty base sLen sCap w' hr hst
                cases du <;> simp [isIntD] at hd
                exact append0_room h0 h1 ht hu hi hz hzs hn hby hr hst
              · intro ty base sLen sCap z' old hz' hr hsm _ hold
                rw [hz] at hz'; cases hz'
                cases du <;> simp [isIntD] at hd
                exact append0_grow h0 h1 ht hu hi hz hzs hn hr hsm hby hold
          · cases h
      · cases h
    | false =>
      rw [hd, cond_false] at h
      obtain ⟨a1, a2, l, a3, a4⟩ := srcS_sound (P := P) H h hv
      obtain ⟨b1, b2, l', b3, b4⟩ := srcS_sound (P := P) H.drew h hv
      refine ⟨a1, ⟨l.toArray, by simpa using a3, ⟨?_⟩⟩, l'.toArray, by simpa using b3, ⟨?_⟩⟩
      · intro ty base sLen sCap w' hr hst
        exact append_room h0 h1 ht hu hd hi a2 hr a4 hst
      · intro ty base sLen sCap z' old hz' hr hsm hby' hold
        rw [hz] at hz'; cases hz'
        exact append_grow h0 h1 ht hu hd hi hz a2 hr hsm hby' hold b4
  · cases h

theorem takeN_ok : ∀ (n : Nat) (l : List SV), n ≤ l.length → takeN n l = some (l.take n)
  | 0, l, _ => by simp [takeN]
  | n + 1, [], h => by simp at h
  | n + 1, x :: l, h => by
    simp only [takeN, takeN_ok n l (by simpa using h), List.take_succ_cons]
theorem run_bi {m : Sem Value} {v : Value} {w' : World} (h : m.run P w = .ok v w') : (do pure (Next.value (← m)) : Sem Next).run P w = .ok (.value v) w' := run_v h
theorem run_firstOld (H : Rel ρ N s w) {b off len sz r base e cap : Nat} {ds : List SV} (hr : readN s b off (Nat.mul len sz) = some ds) (hb : ρ b = some (r, base, e)) :
    ds.length = len * sz ∧ ∃ l : List Value, VRs ρ ds l ∧ (Builtin.firstCells sz len (.slice (some ⟨r, base + off, none⟩) len cap)).run P w = .ok l.toArray w := by
  obtain ⟨l, h1, h2⟩ := readN_sound (P := P) H hr hb
  refine ⟨?_, l, h2, by simp only [Builtin.firstCells]; exact h1⟩
  unfold readN at hr
  split at hr
  · obtain ⟨q1, q2⟩ := takeN_some _ _ _ hr
    rw [q1, List.length_take]
    show min (len * sz) _ = len * sz
    have : len * sz ≤ _ := q2
    omega
  · cases hr
theorem append_sound (H : Rel ρ N s w) {ts : Array TypeId} {t u : TypeId} (h0 : ts[0]? = some t) (h1 : ts[1]? = some u) {x y : SV} {vx vy : Value} {ty : TypeId} {res : Result Next}
    (hx : x ≠ .bad → VR ρ x vx) (hy : y ≠ .bad → VR ρ y vy) (hk : ¬ k0)
    (hres : ∀ v w', (Builtin.append_ ts ty #[vx, vy]).run P w = .ok v w' → res = .ok (.value v) w') : RR P ρ N s w k0 res (appS P s t u x y) := by
  unfold appS
  split
  · rename_i e ht
    split
    · rename_i i hi
      split
      · rename_i n new hsrc
        cases hc0 : (zokB i && (small n i.bytes && allOne new)) with
        | false => exact trivial
        | true =>
          rw [cond_true]
          rw [Bool.and_eq_true] at hc0
          have hZ := zokB_ok hc0.1
          have hc := hc0.2
          rw [Bool.and_eq_true] at hc
          obtain ⟨hn, hby⟩ := small_le hc.1
          have hone := hc.2
          obtain ⟨hnl, ⟨l, hlv, S⟩, l', hlv', S'⟩ := srcA_sound H hZ h0 h1 ht hi hsrc hy hn hby
          obtain ⟨z, hz, hzs⟩ := id hZ
          split
          · -- emp
            have := hx (by simp)
            simp only [VR] at this
            obtain ⟨a, cap, rfl⟩ := this
            cases hn0 : Nat.beq n 0 with
            | false => exact trivial
            | true =>
              have := Nat.eq_of_beq_eq_true hn0
              subst this
              have hl0 : l = #[] := by
                have := hlv.len
                rw [hnl] at this
                apply Array.eq_empty_of_size_eq_zero
                simpa using this
              subst hl0
              refine RV.pure H (hres _ _ (S.room (sLen := 0) (sCap := cap) (base := some a) (Nat.zero_le _) (by simp [storeCells]))) ?_
              simp only [VR]; exact ⟨a, cap, rfl⟩
          · -- nils
            have := hx (by simp)
            simp only [VR] at this
            subst this
            cases hn0 : Nat.beq n 0 with
            | true =>
              have := Nat.eq_of_beq_eq_true hn0
              subst this
              rw [cond_true]
              refine RV.pure H (hres _ _ (S.room (sLen := 0) (sCap := 0) (base := none) (Nat.le_refl _) (by simp))) ?_
              simp [VR]
            | false =>
              rw [cond_false]
              have hn1 : 0 < n := by
                rcases Nat.eq_zero_or_pos n with h | h
                · subst h; simp at hn0
                · exact h
              refine grow_out H hZ hi hz (need := n) (sCap := 0) (old := #[]) (new := l') (by simpa using hlv') hnl ?_
              have := S'.grow (ty := ty) (base := none) (sLen := 0) (sCap := 0) (old := #[]) hz (by omega) (by omega) hby (by simp [Builtin.firstCells])
              rw [Nat.zero_add] at this
              exact hres _ _ this
          · -- slc
            rename_i b off len cap
            have := hx (by simp)
            simp only [VR] at this
            obtain ⟨r, base, e', hb, rfl⟩ := this
            cases hroom : Nat.ble (Nat.add len n) cap with
            | true =>
              rw [cond_true]
              have hroom' : len + n ≤ cap := Nat.le_of_ble_eq_true hroom
              exact in_out H hb S hlv hroom' (by simp only [VR]; exact ⟨r, base, e', hb, rfl⟩) hres hk
            | false =>
              rw [cond_false]
              have hroom' : cap < len + n := by
                rcases Nat.lt_or_ge cap (len + n) with h | h
                · exact h
                · have : Nat.ble (Nat.add len n) cap = true := Nat.ble_eq_true_of_le h
                  rw [this] at hroom; cases hroom
              split
              · rename_i old hold
                cases hsm : small len i.bytes with
                | false => exact trivial
                | true =>
                  rw [cond_true]
                  obtain ⟨hlen, _⟩ := small_le hsm
                  obtain ⟨o1, lo, o2, o3⟩ := run_firstOld (P := P) (cap := cap) H.drew hold hb
                  refine grow_out H hZ hi hz (need := len + n) (sCap := cap) (old := lo.toArray) (new := l') (by simpa using o2.append hlv') (by rw [List.length_append, o1, hnl, ← Nat.add_mul]) ?_
                  exact hres _ _ (S'.grow (base := some ⟨r, base + off, none⟩) hz hroom' (by omega) hby o3)
              · exact trivial
          · -- slo
            rename_i b off len sz
            have := hx (by simp)
            simp only [VR] at this
            obtain ⟨r, base, e', cap, hb, hlc, hcap, rfl⟩ := this
            cases hq : (Nat.beq sz i.size && small len i.bytes && Nat.ble 1 sz) with
            | false => exact trivial
            | true =>
              rw [cond_true]
              rw [Bool.and_eq_true, Bool.and_eq_true] at hq
              have := Nat.eq_of_beq_eq_true hq.1.1
              subst this
              obtain ⟨hlen, _⟩ := small_le hq.1.2
              have hs1 := Nat.le_of_ble_eq_true hq.2
              cases hn0 : Nat.beq n 0 with
              | true =>
                have := Nat.eq_of_beq_eq_true hn0
                subst this
                rw [cond_true]
                have hl0 : l = #[] := by
                  have := hlv.len
                  rw [hnl] at this
                  apply Array.eq_empty_of_size_eq_zero
                  simpa using this
                subst hl0
                refine RV.pure H (hres _ _ (S.room (sLen := len) (sCap := cap) (base := some ⟨r, base + off, none⟩) (by omega) (by simp [storeCells]))) ?_
                simp only [VR]
                exact ⟨r, base, e', cap, hb, hlc, hcap, rfl⟩
              | false =>
                rw [cond_false]
                have hn1 : 0 < n := by
                  rcases Nat.eq_zero_or_pos n with h | h
                  · subst h; simp at hn0
                  · exact h
                split
                · rename_i tb cs ub fz st hg
                  have hL := H.live _ _ _ _ hb
                  rw [hg] at hL
                  obtain ⟨rc, fzr, ho, hsize, hclen, hub, hcr, hfr, hst⟩ := hL
                  have hmul : ∀ a b : Nat, Nat.add off (Nat.mul a b) = off + a * b := fun _ _ => rfl
                  cases hk1 : Nat.ble (Nat.add off (Nat.mul (Nat.add len n) i.size)) cs.length with
                  | true =>
                    rw [cond_true]
                    have hk1' : off + (len + n) * i.size ≤ cs.length := Nat.le_of_ble_eq_true hk1
                    have hroom' : len + n ≤ cap := by
                      have : (len + n) * i.size ≤ cap * i.size := by omega
                      exact Nat.le_of_mul_le_mul_right this (by omega)
                    exact in_out H hb S hlv hroom' (by simp only [VR]; exact ⟨r, base, e', cap, hb, hroom', hcap, rfl⟩) hres hk
                  | false =>
                    rw [cond_false]
                    cases hk2 : (Nat.ble (Nat.succ ub) (Nat.add off (Nat.mul (Nat.add len n) i.size)) && Nat.ble (Nat.succ ub) big) with
                    | true =>
                      rw [cond_true]
                      rw [Bool.and_eq_true] at hk2
                      have k1 : ub < off + (len + n) * i.size := Nat.le_of_ble_eq_true hk2.1
                      have k2 : ub < big := Nat.le_of_ble_eq_true hk2.2
                      have k3 := hub k2
                      have hroom' : cap < len + n := by
                        rcases Nat.lt_or_ge cap (len + n) with h | h
                        · exact h
                        · have : (len + n) * i.size ≤ cap * i.size := Nat.mul_le_mul_right _ h
                          omega
                      split
                      · rename_i old hold
                        have hold' : readN s b off (Nat.mul len i.size) = some old := by simp only [readN, hg, readB, hold]
                        obtain ⟨o1, lo, o2, o3⟩ := run_firstOld (P := P) (cap := cap) H.drew hold' hb
                        refine grow_out H hZ hi hz (need := len + n) (sCap := cap) (old := lo.toArray) (new := l') (by simpa using o2.append hlv') (by rw [List.length_append, o1, hnl, ← Nat.add_mul]) ?_
                        exact hres _ _ (S'.grow (base := some ⟨r, base + off, none⟩) hz hroom' (by omega) hby o3)
                      · exact trivial
                    | false =>
                      rw [cond_false]
                      cases hk3 : (Nat.beq (Nat.add off (Nat.mul len i.size)) cs.length && Nat.beq tb e && Nat.ble fz cs.length) with
                      | false => exact trivial
                      | true =>
                        rw [cond_true]
                        rw [Bool.and_eq_true, Bool.and_eq_true] at hk3
                        have k1 : off + len * i.size = cs.length := Nat.eq_of_beq_eq_true hk3.1.1
                        have k2 := Nat.eq_of_beq_eq_true hk3.1.2
                        have k3 := Nat.le_of_ble_eq_true hk3.2
                        subst k2
                        rw [dropN_eq]
                        by_cases hroom : len + n ≤ cap
                        · have hll := hlv.len
                          simp only [Array.length_toList] at hll
                          have hmm : (len + n) * i.size ≤ cap * i.size := Nat.mul_le_mul_right _ hroom
                          rw [Nat.add_mul] at hmm
                          obtain ⟨w', p1, p2, p3, p4⟩ := past_write (P := P) H hg hb (off := off) (by omega) hlv hone k3 (by simp only [Array.length_toList]; omega)
                          refine ⟨_, _, w', hres _ _ (S.room hroom ?_), ?_, p2, p3, p4, fun h => absurd h hk⟩
                          · simp only [add_addr]
                            have : base + off + len * i.size = base + cs.length := by omega
                            rw [this]
                            exact p1
                          · simp only [VR]
                            exact ⟨r, base + off, e', cap, Rho.add_self _ _ _, hroom, by omega, rfl⟩
                        · have hold' : readN s b off (Nat.mul len i.size) = some (cs.drop off) := by
                            simp only [readN, hg, readB, dropN_eq]
                            have hl : (cs.drop off).length = len * i.size := by rw [List.length_drop]; omega
                            rw [takeN_ok _ _ (by rw [hl]; exact Nat.le_refl _)]
                            rw [List.take_of_length_le (by rw [hl]; exact Nat.le_refl _)]
                          obtain ⟨o1, lo, o2, o3⟩ := run_firstOld (P := P) (cap := cap) H.drew hold' hb
                          refine grow_out' (H.drop b) (Ext.put H hb _) rfl hZ hi hz (need := len + n) (sCap := cap) (old := lo.toArray) (new := l') (by simpa using o2.append hlv') (by rw [List.length_append, o1, hnl, ← Nat.add_mul]) ?_
                          exact hres _ _ (S'.grow (base := some ⟨r, base + off, none⟩) hz (by omega) (by omega) hby o3)
                · exact trivial
          · exact trivial
      · exact trivial
    · exact trivial
  · exact trivial

/-! ## copy -/
theorem run_copy (P : Program) (w w' : World) {ts : Array TypeId} {t e ty : TypeId} {sz n dl cap : Nat} {base : Option Addr} {y : Value} {cells : Array Value} (h0 : ts[0]? = some t) (ht : P.underlying t = some (.slice e)) (hsz : size? P e = some sz)
    (hlen : (Builtin.lenOf y).run P w = .ok n w) (hc : (Builtin.firstCells sz (Nat.min n dl) y).run P w = .ok cells w)
    (hst : (match base with | some a => storeCells a cells.toList | none => pure () : Sem Unit).run P w = .ok () w') :
    (Builtin.copy_ ts ty #[.slice base dl cap, y]).run P w = .ok (.int .i64 (Nat.min n dl)) w' := by
  cases base with
  | none =>
    simp at hst
    subst hst
    simp [Builtin.copy_, h0, run_underlying ht, run_sizeOf hsz, hlen, hc, goInt]
  | some a =>
    simp only at hst
    simp [Builtin.copy_, h0, run_underlying ht, run_sizeOf hsz, hlen, hc, hst, goInt]
/-- the first cells of what is copied -/
theorem srcS_first (H : Rel ρ N s w) {sz n m : Nat} {y : SV} {cs new : List SV} {v : Value} (h : srcS s sz y = some (n, cs)) (hv : y ≠ .bad → VR ρ y v) (hm : m ≤ n) (ht : takeN (Nat.mul m sz) cs = some new) :
    ∃ l : List Value, VRs ρ new l ∧ (Builtin.firstCells sz m v).run P w = .ok l.toArray w := by
  have rd : ∀ b off len r base e cap ds, readN s b off (Nat.mul len sz) = some ds → ρ b = some (r, base, e) → m ≤ len → takeN (Nat.mul m sz) ds = some new → ∃ l : List Value, VRs ρ new l ∧ (Builtin.firstCells sz m (.slice (some ⟨r, base + off, none⟩) len cap)).run P w = .ok l.toArray w := by
    intro b off len r base e cap ds hr hb hml htk
    have hr' : readN s b off (Nat.mul m sz) = some new := by
      unfold readN at hr ⊢
      split at hr
      · rename_i cb hcb
        obtain ⟨q1, q2⟩ := takeN_some _ _ _ hr
        obtain ⟨q3, q4⟩ := takeN_some _ _ _ htk
        have hmul : m * sz ≤ len * sz := Nat.mul_le_mul_right _ hml
        have q2' : len * sz ≤ (dropN off cb).length := q2
        rw [takeN_ok _ _ (by show m * sz ≤ _; omega), q3, q1, List.take_take]
        congr 2
        show m * sz = min (m * sz) (len * sz)
        omega
      · cases hr
    obtain ⟨l, h1, h2⟩ := readN_sound (P := P) H hr' hb
    exact ⟨l, h2, by simp only [Builtin.firstCells]; exact h1⟩
  have nil0 : cs = [] → new = [] := fun e => by
    subst e
    obtain ⟨q1, q2⟩ := takeN_some _ _ _ ht
    rw [q1]; simp
  unfold srcS at h
  split at h
  · cases h
    have := hv (by simp)
    simp only [VR] at this
    subst this
    have := nil0 rfl
    subst this
    exact ⟨[], VRs.nil, by simp [Builtin.firstCells]⟩
  · cases h
    have := hv (by simp)
    simp only [VR] at this
    obtain ⟨a, cap, rfl⟩ := this
    have := nil0 rfl
    subst this
    have : m = 0 := by omega
    subst this
    exact ⟨[], VRs.nil, by simp [Builtin.firstCells, loadCells, loadCellsFrom]⟩
  · split at h
    · rename_i ds hr
      cases h
      have := hv (by simp)
      simp only [VR] at this
      obtain ⟨r, base, e, hb, rfl⟩ := this
      exact rd _ _ _ _ _ _ _ _ hr hb hm ht
    · cases h
  · split at h
    · rename_i ds hr
      cases h
      have := hv (by simp)
      simp only [VR] at this
      obtain ⟨r, base, e, cap, hb, _, _, rfl⟩ := this
      exact rd _ _ _ _ _ _ _ _ hr hb hm ht
    · cases h
  · rename_i l k
    cases hs : Nat.beq sz 1 with
    | false => rw [hs] at h; simp at h
    | true =>
      have := Nat.eq_of_beq_eq_true hs
      subst this
      rw [hs, cond_true] at h
      cases h
      have := hv (by simp)
      simp only [VR] at this
      obtain ⟨a, rfl, ha⟩ := this
      have hb := bytesSV_sound (ρ := ρ) a.data.toList
      rw [SR.len ha, ha.2] at hb
      have ht' : takeN (Nat.mul m 1) (dropN 0 (bytesSV n k)) = some new := ht
      have hv' := takeN_vrs hb ht'
      refine ⟨_, hv', ?_⟩
      simp only [Builtin.firstCells, Sem.run_pure]
      congr 1
      apply Array.ext'
      have : Nat.mul m 1 = m := Nat.mul_one m
      rw [Array.toList_map, ByteArray.data_extract, this]
      simp [List.map_take]
      rfl
  · cases h
theorem copy_sound (H : Rel ρ N s w) {ts : Array TypeId} {t : TypeId} (h0 : ts[0]? = some t) {x y : SV} {vx vy : Value} {ty : TypeId} {res : Result Next}
    (hx : x ≠ .bad → VR ρ x vx) (hy : y ≠ .bad → VR ρ y vy) (hk : ¬ k0)
    (hres : ∀ v w', (Builtin.copy_ ts ty #[vx, vy]).run P w = .ok v w' → res = .ok (.value v) w') : RR P ρ N s w k0 res (copyS P s t x y) := by
  unfold copyS
  split
  · rename_i e ht
    split
    · rename_i sz hsz
      split
      · rename_i n cs hsrc
        obtain ⟨_, hlen, _⟩ := srcS_sound (P := P) H hsrc hy
        split
        · have := hx (by simp)
          simp only [VR] at this
          subst this
          obtain ⟨l, _, hf⟩ := srcS_first (P := P) (m := 0) (new := []) H hsrc hy (Nat.zero_le _) (by rw [show Nat.mul 0 sz = 0 from Nat.zero_mul sz]; simp [takeN])
          have := run_copy P w w (ty := ty) (dl := 0) (cap := 0) (base := none) h0 ht hsz (hlen w) (by simpa using hf) (by simp)
          refine RV.pure H (hres _ _ this) ?_
          simp [VR]
        · have := hx (by simp)
          simp only [VR] at this
          obtain ⟨a, cap, rfl⟩ := this
          obtain ⟨l, hlv, hf⟩ := srcS_first (P := P) (m := 0) (new := []) H hsrc hy (Nat.zero_le _) (by rw [show Nat.mul 0 sz = 0 from Nat.zero_mul sz]; simp [takeN])
          rw [VRs.nil_iff] at hlv
          subst hlv
          have := run_copy P w w (ty := ty) (dl := 0) (cap := cap) (base := some a) h0 ht hsz (hlen w) (by simpa using hf) (by simp [storeCells])
          refine RV.pure H (hres _ _ this) ?_
          simp [VR]
        · split
          · rename_i b off dl hat
            split
            · rename_i new htk
              split
              · rename_i s' hw
                obtain ⟨r, base, e', cap, hb, rfl⟩ := atS_some hat (hx (atS_ne hat))
                have hmin : minN n dl = Nat.min n dl := minN_eq n dl
                obtain ⟨l, hlv, hf⟩ := srcS_first (P := P) H hsrc hy (by rw [hmin]; exact Nat.min_le_left _ _) htk
                obtain ⟨w', q1, q2, q3, q4⟩ := write_sound (P := P) H hw hb hlv
                have := run_copy P w w' (ty := ty) (dl := dl) (cap := cap) (base := some ⟨r, base + off, none⟩) h0 ht hsz (hlen w) (by rw [← hmin]; exact hf) (by simpa using q1)
                refine ⟨ρ, _, w', hres _ _ this, ?_, q2, q3, q4, fun h => absurd h hk⟩
                simp only [VR]
                rw [hmin]
                rfl
              · exact trivial
            · exact trivial
          · exact trivial
      · exact trivial
    · exact trivial
  · exact trivial
end Go.Sh
