/- Part of a proof that a closed law answers true: the evaluator of the first text is sound; this text is one step of it. No condition. -/
import Derived.Test.YtbnplpeodjknaaaGreatDoorShA
import Derived.Below
set_option linter.unusedSectionVars false
set_option linter.unusedSimpArgs false
set_option linter.unusedVariables false
namespace Go.Sh
/-- the values that are not known -/
class Opq where
  val : Nat → Value
  str : ∀ i, i < 100 → ∃ s, val i = .string s
  slc : ∀ i, 100 ≤ i → i < 200 → ∃ a l c, val i = .slice a l c
  int : ∀ i, 200 ≤ i → ∃ k n, val i = .int k n
  lenS : ∀ i s, i < 100 → val i = .string s → val (i + 1000) = .int .i64 s.size
  lenL : ∀ i a l c, 100 ≤ i → i < 200 → val i = .slice a l c → val (i + 1000) = .int .i64 l
variable [Opq]
theorem Opq.shape (i : Nat) : (∃ s, Opq.val i = .string s) ∨ (∃ a l c, Opq.val i = .slice a l c) ∨ ∃ k n, Opq.val i = .int k n := by
  rcases Nat.lt_or_ge i 100 with h | h
  · exact .inl (Opq.str i h)
  · rcases Nat.lt_or_ge i 200 with h' | h'
    · exact .inr (.inl (Opq.slc i h h'))
    · exact .inr (.inr (Opq.int i h'))
open Go.RowKit (Below)

/-! ## the relation between shadow values and values -/
abbrev Rho := Nat → Option (Nat × Nat × Nat)

mutual
def VR (ρ : Rho) : SV → Value → Prop
  | .bad, _ => False
  | .junk, _ => True
  | .bool b, v => v = .bool b
  | .int k n, v => v = .int k n
  | .flt k n, v => v = .float k n
  | .str len n, v => ∃ s : ByteArray, v = .string s ∧ s.size = len ∧ natOf s.data.toList = n
  | .ptr b off, v => ∃ r base e, ρ b = some (r, base, e) ∧ v = .pointer (some ⟨r, base + off, none⟩)
  | .nilp, v => v = .pointer none
  | .slc b off len cap, v => ∃ r base e, ρ b = some (r, base, e) ∧ v = .slice (some ⟨r, base + off, none⟩) len cap
  | .slo b off len sz, v => ∃ r base e cap, ρ b = some (r, base, e) ∧ len ≤ cap ∧ base + off + cap * sz = e ∧ v = .slice (some ⟨r, base + off, none⟩) len cap
  | .nils, v => v = .slice none 0 0
  | .capx b off len sz, v => ∃ r base e cap, ρ b = some (r, base, e) ∧ len ≤ cap ∧ base + off + cap * sz = e ∧ v = .int .i64 (Int.ofNat cap)
  | .emp, v => ∃ a cap, v = .slice (some a) 0 cap
  | .mp b, v => ∃ r base e, ρ b = some (r, base, e) ∧ v = .map (some r)
  | .nilm, v => v = .map none
  | .fn f a c, v => ∃ a' c' : List Value, VRs ρ a a' ∧ VRs ρ c c' ∧ v = .func f a'.toArray c'.toArray
  | .yld b, v => ∃ r base e, ρ b = some (r, base, e) ∧ v = .func (.yield r) #[] #[]
  | .nilf, v => v = .nilFunc
  | .ifc t x, v => ∃ y, VR ρ x y ∧ v = .iface t y
  | .nili, v => v = .nilIface
  | .agg cs, v => ∃ l : List Value, VRs ρ cs l ∧ v = .agg l.toArray
  | .tup cs, v => ∃ l : List Value, VRs ρ cs l ∧ v = .tuple l.toArray
  | .opq i, v => v = Opq.val i
def VRs (ρ : Rho) : List SV → List Value → Prop
  | [], l => l = []
  | x :: xs, l => ∃ y ys, VR ρ x y ∧ VRs ρ xs ys ∧ l = y :: ys
end

def Rho.le (ρ ρ' : Rho) : Prop := ∀ b x, ρ b = some x → ρ' b = some x
theorem Rho.le_refl (ρ : Rho) : ρ.le ρ := fun _ _ h => h
theorem Rho.le_trans {a b c : Rho} (h : a.le b) (k : b.le c) : a.le c := fun _ _ e => k _ _ (h _ _ e)

mutual
theorem VR.mono {ρ ρ' : Rho} (h : ρ.le ρ') : ∀ (x : SV) (v : Value), VR ρ x v → VR ρ' x v
  | .bad, _, hv => by simp [VR] at hv
  | .junk, _, _ => by simp [VR]
  | .bool _, _, hv => by simpa [VR] using hv
  | .int _ _, _, hv => by simpa [VR] using hv
  | .flt _ _, _, hv => by simpa [VR] using hv
  | .str _ _, _, hv => by simpa [VR] using hv
  | .ptr _ _, _, hv => by
    simp only [VR] at hv ⊢
    obtain ⟨r, base, e, hb, rfl⟩ := hv
    exact ⟨r, base, e, h _ _ hb, rfl⟩
  | .nilp, _, hv => by simpa [VR] using hv
  | .slc _ _ _ _, _, hv => by
    simp only [VR] at hv ⊢
    obtain ⟨r, base, e, hb, rfl⟩ := hv
    exact ⟨r, base, e, h _ _ hb, rfl⟩
  | .slo _ _ _ _, _, hv => by
    simp only [VR] at hv ⊢
    obtain ⟨r, base, e, cap, hb, h1, h2, rfl⟩ := hv
    exact ⟨r, base, e, cap, h _ _ hb, h1, h2, rfl⟩
  | .nils, _, hv => by simpa [VR] using hv
  | .capx _ _ _ _, _, hv => by
    simp only [VR] at hv ⊢
    obtain ⟨r, base, e, cap, hb, h1, h2, rfl⟩ := hv
    exact ⟨r, base, e, cap, h _ _ hb, h1, h2, rfl⟩
  | .emp, _, hv => by simpa [VR] using hv
  | .mp _, _, hv => by
    simp only [VR] at hv ⊢
    obtain ⟨r, base, e, hb, rfl⟩ := hv
    exact ⟨r, base, e, h _ _ hb, rfl⟩
  | .nilm, _, hv => by simpa [VR] using hv
  | .fn _ a c, _, hv => by
    simp only [VR] at hv ⊢
    obtain ⟨a', c', ha, hc, rfl⟩ := hv
    exact ⟨a', c', VRs.mono h a a' ha, VRs.mono h c c' hc, rfl⟩
  | .yld _, _, hv => by
    simp only [VR] at hv ⊢
    obtain ⟨r, base, e, hb, rfl⟩ := hv
    exact ⟨r, base, e, h _ _ hb, rfl⟩
  | .nilf, _, hv => by simpa [VR] using hv
  | .ifc _ x, _, hv => by
    simp only [VR] at hv ⊢
    obtain ⟨y, hy, rfl⟩ := hv
    exact ⟨y, VR.mono h x y hy, rfl⟩
  | .nili, _, hv => by simpa [VR] using hv
  | .agg cs, _, hv => by
    simp only [VR] at hv ⊢
    obtain ⟨l, hl, rfl⟩ := hv
    exact ⟨l, VRs.mono h cs l hl, rfl⟩
  | .tup cs, _, hv => by
    simp only [VR] at hv ⊢
    obtain ⟨l, hl, rfl⟩ := hv
    exact ⟨l, VRs.mono h cs l hl, rfl⟩
  | .opq _, _, hv => by simpa [VR] using hv
theorem VRs.mono {ρ ρ' : Rho} (h : ρ.le ρ') : ∀ (xs : List SV) (l : List Value), VRs ρ xs l → VRs ρ' xs l
  | [], _, hl => by simpa [VRs] using hl
  | x :: xs, _, hl => by
    simp only [VRs] at hl ⊢
    obtain ⟨y, ys, hy, hys, rfl⟩ := hl
    exact ⟨y, ys, VR.mono h x y hy, VRs.mono h xs ys hys, rfl⟩
end

mutual
/-- back along an extension: what was related before is related by the names that it had -/
theorem VR.back {ρ ρ' : Rho} (h : ρ.le ρ') : ∀ (x : SV) (u v : Value), VR ρ x u → VR ρ' x v → VR ρ x v
  | .bad, _, _, hu, _ => by simp [VR] at hu
  | .junk, _, _, _, _ => by simp [VR]
  | .bool _, _, _, _, hv => by simpa [VR] using hv
  | .int _ _, _, _, _, hv => by simpa [VR] using hv
  | .flt _ _, _, _, _, hv => by simpa [VR] using hv
  | .str _ _, _, _, _, hv => by simpa [VR] using hv
  | .ptr _ _, _, _, hu, hv => by
    simp only [VR] at hu hv ⊢
    obtain ⟨r, base, e, hb, _⟩ := hu
    obtain ⟨r', base', e', hb', rfl⟩ := hv
    rw [h _ _ hb] at hb'; cases hb'
    exact ⟨r, base, e, hb, rfl⟩
  | .nilp, _, _, _, hv => by simpa [VR] using hv
  | .slc _ _ _ _, _, _, hu, hv => by
    simp only [VR] at hu hv ⊢
    obtain ⟨r, base, e, hb, _⟩ := hu
    obtain ⟨r', base', e', hb', rfl⟩ := hv
    rw [h _ _ hb] at hb'; cases hb'
    exact ⟨r, base, e, hb, rfl⟩
  | .slo _ _ _ _, _, _, hu, hv => by
    simp only [VR] at hu hv ⊢
    obtain ⟨r, base, e, _, hb, _⟩ := hu
    obtain ⟨r', base', e', cap', hb', h1, h2, rfl⟩ := hv
    rw [h _ _ hb] at hb'; cases hb'
    exact ⟨r, base, e, cap', hb, h1, h2, rfl⟩
  | .nils, _, _, _, hv => by simpa [VR] using hv
  | .capx _ _ _ _, _, _, hu, hv => by
    simp only [VR] at hu hv ⊢
    obtain ⟨r, base, e, _, hb, _⟩ := hu
    obtain ⟨r', base', e', cap', hb', h1, h2, rfl⟩ := hv
    rw [h _ _ hb] at hb'; cases hb'
    exact ⟨r, base, e, cap', hb, h1, h2, rfl⟩
  | .emp, _, _, _, hv => by simpa [VR] using hv
  | .mp _, _, _, hu, hv => by
    simp only [VR] at hu hv ⊢
    obtain ⟨r, base, e, hb, _⟩ := hu
    obtain ⟨r', base', e', hb', rfl⟩ := hv
    rw [h _ _ hb] at hb'; cases hb'
    exact ⟨r, base, e, hb, rfl⟩
  | .nilm, _, _, _, hv => by simpa [VR] using hv
  | .fn _ a c, _, _, hu, hv => by
    simp only [VR] at hu hv ⊢
    obtain ⟨ua, uc, hua, huc, _⟩ := hu
    obtain ⟨a', c', ha, hc, rfl⟩ := hv
    exact ⟨a', c', VRs.back h a ua a' hua ha, VRs.back h c uc c' huc hc, rfl⟩
  | .yld _, _, _, hu, hv => by
    simp only [VR] at hu hv ⊢
    obtain ⟨r, base, e, hb, _⟩ := hu
    obtain ⟨r', base', e', hb', rfl⟩ := hv
    rw [h _ _ hb] at hb'; cases hb'
    exact ⟨r, base, e, hb, rfl⟩
  | .nilf, _, _, _, hv => by simpa [VR] using hv
  | .ifc _ x, _, _, hu, hv => by
    simp only [VR] at hu hv ⊢
    obtain ⟨u, hu, _⟩ := hu
    obtain ⟨y, hy, rfl⟩ := hv
    exact ⟨y, VR.back h x u y hu hy, rfl⟩
  | .nili, _, _, _, hv => by simpa [VR] using hv
  | .agg cs, _, _, hu, hv => by
    simp only [VR] at hu hv ⊢
    obtain ⟨u, hu, _⟩ := hu
    obtain ⟨l, hl, rfl⟩ := hv
    exact ⟨l, VRs.back h cs u l hu hl, rfl⟩
  | .tup cs, _, _, hu, hv => by
    simp only [VR] at hu hv ⊢
    obtain ⟨u, hu, _⟩ := hu
    obtain ⟨l, hl, rfl⟩ := hv
    exact ⟨l, VRs.back h cs u l hu hl, rfl⟩
  | .opq _, _, _, _, hv => by simpa [VR] using hv
theorem VRs.back {ρ ρ' : Rho} (h : ρ.le ρ') : ∀ (xs : List SV) (us l : List Value), VRs ρ xs us → VRs ρ' xs l → VRs ρ xs l
  | [], _, _, _, hl => by simpa [VRs] using hl
  | x :: xs, _, _, hu, hl => by
    simp only [VRs] at hu hl ⊢
    obtain ⟨u, us, hu, hus, _⟩ := hu
    obtain ⟨y, ys, hy, hys, rfl⟩ := hl
    exact ⟨y, ys, VR.back h x u y hu hy, VRs.back h xs us ys hus hys, rfl⟩
end

theorem VRs.nil_iff {ρ : Rho} {l : List Value} : VRs ρ [] l ↔ l = [] := by simp [VRs]
theorem VRs.cons {ρ : Rho} {x : SV} {xs : List SV} {y : Value} {ys : List Value} (h : VR ρ x y) (k : VRs ρ xs ys) : VRs ρ (x :: xs) (y :: ys) := by
  simp only [VRs]; exact ⟨y, ys, h, k, rfl⟩
theorem VRs.nil {ρ : Rho} : VRs ρ [] [] := by simp [VRs]
theorem VRs.cons_inv {ρ : Rho} {x : SV} {xs : List SV} {l : List Value} (h : VRs ρ (x :: xs) l) : ∃ y ys, VR ρ x y ∧ VRs ρ xs ys ∧ l = y :: ys := by simpa only [VRs] using h
theorem VRs.len {ρ : Rho} : ∀ {xs : List SV} {l : List Value}, VRs ρ xs l → l.length = xs.length
  | [], l, h => by rw [VRs.nil_iff] at h; subst h; rfl
  | x :: xs, l, h => by obtain ⟨y, ys, _, hys, rfl⟩ := h.cons_inv; simp [VRs.len hys]
theorem VRs.append {ρ : Rho} : ∀ {xs : List SV} {l : List Value} {ys : List SV} {m : List Value}, VRs ρ xs l → VRs ρ ys m → VRs ρ (xs ++ ys) (l ++ m)
  | [], l, ys, m, h, k => by rw [VRs.nil_iff] at h; subst h; exact k
  | x :: xs, l, ys, m, h, k => by obtain ⟨y, zs, hy, hzs, rfl⟩ := h.cons_inv; exact VRs.cons hy (VRs.append hzs k)
theorem VRs.get {ρ : Rho} : ∀ {xs : List SV} {l : List Value}, VRs ρ xs l → ∀ (i : Nat) (x : SV), xs[i]? = some x → ∃ v, l[i]? = some v ∧ VR ρ x v
  | [], _, _, i, x, hx => by simp at hx
  | y :: ys, l, h, i, x, hx => by
    obtain ⟨v, vs, hv, hvs, rfl⟩ := h.cons_inv
    cases i with
    | zero => simp at hx; subst hx; exact ⟨v, rfl, hv⟩
    | succ i => simp at hx; obtain ⟨u, hu, hr⟩ := VRs.get hvs i x hx; exact ⟨u, by simpa using hu, hr⟩
theorem VRs.of_get {ρ : Rho} : ∀ {xs : List SV} {l : List Value}, l.length = xs.length → (∀ (i : Nat) (x : SV) (v : Value), xs[i]? = some x → l[i]? = some v → VR ρ x v) → VRs ρ xs l
  | [], l, hl, _ => by rw [VRs.nil_iff]; exact List.eq_nil_of_length_eq_zero (by simpa using hl)
  | x :: xs, l, hl, h => by
    cases l with
    | nil => simp at hl
    | cons v vs => exact VRs.cons (h 0 x v rfl rfl) (VRs.of_get (by simpa using hl) fun i y u hy hu => h (i + 1) y u (by simpa using hy) (by simpa using hu))

/-- a value of one cell -/
theorem oneC_cell {ρ : Rho} {x : SV} {v : Value} (h : oneC x = true) (hv : VR ρ x v) : v.oneCell' = true := by
  cases x <;> simp [oneC] at h <;> simp only [VR] at hv
  all_goals first
    | (subst hv; rfl)
    | (obtain ⟨_, rfl, _⟩ := hv; rfl)
    | (obtain ⟨_, _, _, _, rfl⟩ := hv; rfl)
    | (obtain ⟨_, _, _, _, _, _, _, rfl⟩ := hv; rfl)
    | (obtain ⟨_, _, rfl⟩ := hv; rfl)
    | (subst hv; rename_i i; rcases Opq.shape i with ⟨_, hs⟩ | ⟨_, _, _, hs⟩ | ⟨_, _, hs⟩ <;> rw [hs] <;> rfl)
theorem cells_of_one {v : Value} (h : v.oneCell' = true) : v.cells = #[v] := by cases v <;> first | rfl | (simp [Value.oneCell'] at h)
theorem VR.cells {ρ : Rho} {x : SV} {v : Value} (hb : x ≠ .junk) (ht : ∀ l, x ≠ .tup l) (h : VR ρ x v) : VRs ρ (cellsOf x) v.cells.toList := by
  cases x with
  | agg cs => simp only [VR] at h; obtain ⟨l, hl, rfl⟩ := h; simpa [cellsOf, Value.cells] using hl
  | bad => simp [VR] at h
  | junk => exact absurd rfl hb
  | tup l => exact absurd rfl (ht l)
  | capx b o l z =>
    simp only [VR] at h; obtain ⟨r, base, e, cap, h1, h2, h3, rfl⟩ := h
    exact VRs.cons (by simp only [VR]; exact ⟨r, base, e, cap, h1, h2, h3, rfl⟩) VRs.nil
  | _ =>
    have hc : v.cells = #[v] := cells_of_one (oneC_cell rfl h)
    rw [hc]; exact VRs.cons h VRs.nil

end Go.Sh
