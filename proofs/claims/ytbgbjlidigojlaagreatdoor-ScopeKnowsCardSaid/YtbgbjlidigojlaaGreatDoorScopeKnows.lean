/- Part of the proof that the law ScopeKnows answers true: the law itself, and the tied card. No condition. -/
import Derived.Test.YtbgbjlidigojlaaGreatDoorTie
import Derived.Test.YtbgbjlidigojlaaGreatDoorCards
import Derived.Test.YtbgbjlidigojlaaGreatDoorSk
import Derived.Test.YtbgbjlidigojlaaGreatDoorSkI
import Derived.Test.YtbgbjlidigojlaaGreatDoorScopeKnowsR0
import Derived.Test.YtbgbjlidigojlaaGreatDoorScopeKnowsR1
import Derived.Test.YtbgbjlidigojlaaGreatDoorScopeKnowsC0
import Derived.Test.YtbgbjlidigojlaaGreatDoorScopeKnowsC1
import Derived.Test.YtbgbjlidigojlaaGreatDoorScopeKnowsC2
import Derived.Test.YtbgbjlidigojlaaGreatDoorScopeKnowsC3
import Derived.Test.YtbgbjlidigojlaaGreatDoorScopeKnowsC4
import Derived.Test.YtbgbjlidigojlaaGreatDoorScopeKnowsC5
import Derived.Test.YtbgbjlidigojlaaGreatDoorScopeKnowsC6
import Derived.Test.YtbgbjlidigojlaaGreatDoorScopeKnowsC7
import Derived.Test.YtbgbjlidigojlaaGreatDoorScopeKnowsC8
import Derived.Test.YtbgbjlidigojlaaGreatDoorScopeKnowsC9
import Derived.Test.YtbgbjlidigojlaaGreatDoorScopeKnowsC10
import Derived.Test.YtbgbjlidigojlaaGreatDoorScopeKnowsC11
import Derived.Test.YtbgbjlidigojlaaGreatDoorScopeKnowsC12
import Derived.Test.YtbgbjlidigojlaaGreatDoorScopeKnowsC13
import Derived.Test.YtbgbjlidigojlaaGreatDoorScopeKnowsC14
import Derived.Test.YtbgbjlidigojlaaGreatDoorScopeKnowsC15
import Derived.Test.YtbgbjlidigojlaaGreatDoorScopeKnowsC16
import Derived.ChangeMaps5
namespace Go.Proofs.YtbgbjlidigojlaaGreatDoor
open Go Go.Sh Go.Sk Go.Lib Go.ChangeShapes Go.WideShapes Go.ChangeAt Go.RowKit Go.ChangeMaps
def skLays_ren : Go.Shelf.Ren := ⟨fun | 171 => 27 | 243 => 45 | 246 => 128 | 283 => 147 | 284 => 148 | 285 => 149 | 286 => 150 | 129 => 127 | 317 => 161 | 318 => 162 | n => n, fun | 3 => 3 | 9 => 9 | 2 => 2 | 4 => 4 | 171 => 119 | 0 => 0 | 53 => 93 | 37 => 99 | 5 => 5 | 173 => 121 | 212 => 136 | 51 => 91 | 46 => 68 | n => n, fun | 17 => 1 | n => n⟩
theorem skLays : Go.Sk.ItLays Tryz.prog skLays_ren where
  mixed := by kernel_rfl
  f129 := Tryz.func127.trans (congrArg some (by kernel_rfl))
  f284 := Tryz.func148.trans (congrArg some (by kernel_rfl))
  f317 := Tryz.func161.trans (congrArg some (by kernel_rfl))
  f318 := Tryz.func162.trans (congrArg some (by kernel_rfl))
  t0 := Tryz.underlying0
  a0 := Tryz.isAgg0
  z0 := Tryz.sizeOf0
  v0 := Tryz.zeroValue0
  t3 := Tryz.underlying3
  a3 := Tryz.isAgg3
  z3 := Tryz.sizeOf3
  v3 := Tryz.zeroValue3
  t4 := Tryz.underlying4
  a4 := Tryz.isAgg4
  z4 := Tryz.sizeOf4
  v4 := Tryz.zeroValue4
  t5 := Tryz.underlying5
  a5 := Tryz.isAgg5
  z5 := Tryz.sizeOf5
  v5 := Tryz.zeroValue5
  t9 := Tryz.underlying9
  a9 := Tryz.isAgg9
  z9 := Tryz.sizeOf9
  v9 := Tryz.zeroValue9
  t46 := Tryz.underlying68
  a46 := Tryz.isAgg68
  z46 := Tryz.sizeOf68
  v46 := Tryz.zeroValue68
  t53 := Tryz.underlying93
  a53 := Tryz.isAgg93
  z53 := Tryz.sizeOf93
  v53 := Tryz.zeroValue93
  t212 := Tryz.underlying136
  a212 := Tryz.isAgg136
  z212 := Tryz.sizeOf136
  v212 := Tryz.zeroValue136
  g17 := by kernel_rfl
  i0 := by kernel_rfl
  i3 := by kernel_rfl
  i4 := by kernel_rfl
  i5 := by kernel_rfl
  i9 := by kernel_rfl
  i46 := by kernel_rfl
  i53 := by kernel_rfl
  i212 := by kernel_rfl
  m17 := by kernel_rfl
  f285 := Tryz.func149.trans (congrArg some (by kernel_rfl))
  t37 := Tryz.underlying99
  a37 := Tryz.isAgg99
  z37 := Tryz.sizeOf99
  v37 := Tryz.zeroValue99
  t51 := Tryz.underlying91
  a51 := Tryz.isAgg91
  z51 := Tryz.sizeOf91
  v51 := Tryz.zeroValue91
  f171 := Tryz.func27.trans (congrArg some (by kernel_rfl))
  f243 := Tryz.func45.trans (congrArg some (by kernel_rfl))
  f246 := Tryz.func128.trans (congrArg some (by kernel_rfl))
  f283 := Tryz.func147.trans (congrArg some (by kernel_rfl))
  t2 := Tryz.underlying2
  a2 := Tryz.isAgg2
  z2 := Tryz.sizeOf2
  v2 := Tryz.zeroValue2
  t171 := Tryz.underlying119
  a171 := Tryz.isAgg119
  z171 := Tryz.sizeOf119
  v171 := Tryz.zeroValue119
  t173 := Tryz.underlying121
  a173 := Tryz.isAgg121
  z173 := Tryz.sizeOf121
  v173 := Tryz.zeroValue121
/-- the names that the code knows but concat, and their arities -/
def kNames : List (List UInt8 × List Nat) := [([97, 98, 115], [1]), ([97, 99, 99, 117, 109, 117, 108, 97, 116, 111, 114, 45, 97, 102, 116, 101, 114], [1]), ([97, 99, 99, 117, 109, 117, 108, 97, 116, 111, 114, 45, 98, 101, 102, 111, 114, 101], [1]), ([97, 100, 106, 117, 115, 116, 45, 116, 105, 109, 101, 122, 111, 110, 101], [2]), ([97, 112, 112, 108, 121], [2]), ([97, 114, 114, 97, 121, 58, 97, 112, 112, 101, 110, 100], [2]), ([97, 114, 114, 97, 121, 58, 102, 108, 97, 116, 116, 101, 110], [1]), ([97, 114, 114, 97, 121, 58, 102, 114, 111, 109], [1]), ([97, 114, 114, 97, 121, 58, 103, 101, 116], [2]), ([97, 114, 114, 97, 121, 58, 105, 110, 115, 101, 114, 116, 45, 98, 101, 102, 111, 114, 101], [3]), ([97, 114, 114, 97, 121, 58, 106, 111, 105, 110], [1]), ([97, 114, 114, 97, 121, 58, 114, 101, 109, 111, 118, 101], [2]), ([97, 114, 114, 97, 121, 58, 114, 101, 118, 101, 114, 115, 101], [1]), ([97, 114, 114, 97, 121, 58, 115, 105, 122, 101], [1]), ([97, 118, 103], [1]), ([98, 111, 111, 108, 101, 97, 110], [1]), ([99, 101, 105, 108, 105, 110, 103], [1]), ([99, 111, 100, 101, 112, 111, 105, 110, 116, 115, 45, 116, 111, 45, 115, 116, 114, 105, 110, 103], [1]), ([99, 111, 109, 112, 97, 114, 101], [2]), ([99, 111, 110, 116, 97, 105, 110, 115], [2]), ([99, 111, 117, 110, 116], [1]), ([99, 117, 114, 114, 101, 110, 116, 45, 103, 114, 111, 117, 112], [0]), ([99, 117, 114, 114, 101, 110, 116, 45, 103, 114, 111, 117, 112, 105, 110, 103, 45, 107, 101, 121], [0]), ([100, 97, 116, 97], [0, 1]), ([100, 97, 121, 45, 102, 114, 111, 109], [1]), ([100, 101, 101, 112, 45, 101, 113, 117, 97, 108], [2]), ([100, 105, 115, 116, 105, 110, 99, 116, 45, 118, 97, 108, 117, 101, 115], [1]), ([101, 109, 112, 116, 121], [1]), ([101, 110, 100, 115, 45, 119, 105, 116, 104], [2]), ([101, 114, 114, 111, 114], [0, 1]), ([101, 120, 97, 99, 116, 108, 121, 45, 111, 110, 101], [1]), ([101, 120, 105, 115, 116, 115], [1]), ([102, 97, 108, 115, 101], [0]), ([102, 105, 108, 116, 101, 114], [2]), ([102, 108, 111, 111, 114], [1]), ([102, 111, 108, 100, 45, 108, 101, 102, 116], [3]), ([102, 111, 108, 100, 45, 114, 105, 103, 104, 116], [3]), ([102, 111, 114, 45, 101, 97, 99, 104], [2]), ([102, 111, 114, 45, 101, 97, 99, 104, 45, 112, 97, 105, 114], [3]), ([102, 111, 114, 109, 97, 116, 45, 100, 97, 116, 101], [2]), ([102, 111, 114, 109, 97, 116, 45, 105, 110, 116, 101, 103, 101, 114], [2]), ([102, 111, 114, 109, 97, 116, 45, 110, 117, 109, 98, 101, 114], [2]), ([102, 117, 110, 99, 116, 105, 111, 110, 45, 97, 114, 105, 116, 121], [1]), ([102, 117, 110, 99, 116, 105, 111, 110, 45, 110, 97, 109, 101], [1]), ([103, 101, 110, 101, 114, 97, 116, 101, 45, 105, 100], [1]), ([104, 97, 115, 45, 99, 104, 105, 108, 100, 114, 101, 110], [1]), ([104, 101, 97, 100], [1]), ([104, 111, 117, 114, 115, 45, 102, 114, 111, 109], [1]), ([105, 110, 100, 101, 120, 45, 111, 102], [2]), ([105, 110, 115, 101, 114, 116, 45, 98, 101, 102, 111, 114, 101], [3]), ([107, 101, 121], [2]), ([108, 97, 115, 116], [0]), ([108, 111, 119, 101, 114, 45, 99, 97, 115, 101], [1]), ([109, 97, 112, 58, 99, 111, 110, 116, 97, 105, 110, 115], [2]), ([109, 97, 112, 58, 101, 110, 116, 114, 121], [2]), ([109, 97, 112, 58, 103, 101, 116], [2]), ([109, 97, 112, 58, 107, 101, 121, 115], [1]), ([109, 97, 112, 58, 109, 101, 114, 103, 101], [1, 2]), ([109, 97, 112, 58, 112, 117, 116], [3]), ([109, 97, 112, 58, 114, 101, 109, 111, 118, 101], [2]), ([109, 97, 112, 58, 115, 105, 122, 101], [1]), ([109, 97, 116, 99, 104, 101, 115], [2, 3]), ([109, 97, 120], [1]), ([109, 105, 110], [1]), ([109, 105, 110, 117, 116, 101, 115, 45, 102, 114, 111, 109], [1]), ([109, 111, 110, 116, 104, 45, 102, 114, 111, 109], [1]), ([110, 97, 109, 101], [0, 1]), ([110, 111, 100, 101, 45, 107, 105, 110, 100], [1]), ([110, 111, 114, 109, 97, 108, 105, 122, 101, 45, 115, 112, 97, 99, 101], [0, 1]), ([110, 111, 116], [1]), ([110, 117, 109, 98, 101, 114], [0, 1]), ([111, 110, 101, 45, 111, 114, 45, 109, 111, 114, 101], [1]), ([112, 111, 115, 105, 116, 105, 111, 110], [0]), ([114, 101, 103, 101, 120, 45, 103, 114, 111, 117, 112], [1]), ([114, 101, 109, 111, 118, 101], [2]), ([114, 101, 112, 108, 97, 99, 101], [3, 4]), ([114, 101, 118, 101, 114, 115, 101], [1]), ([114, 111, 111, 116], [0, 1]), ([114, 111, 117, 110, 100], [1, 2]), ([114, 111, 117, 110, 100, 45, 104, 97, 108, 102, 45, 116, 111, 45, 101, 118, 101, 110], [1, 2]), ([115, 101, 99, 111, 110, 100, 115, 45, 102, 114, 111, 109], [1]), ([115, 111, 114, 116], [1, 2]), ([115, 116, 97, 114, 116, 115, 45, 119, 105, 116, 104], [2]), ([115, 116, 114, 105, 110, 103], [0, 1]), ([115, 116, 114, 105, 110, 103, 45, 106, 111, 105, 110], [1, 2]), ([115, 116, 114, 105, 110, 103, 45, 108, 101, 110, 103, 116, 104], [0, 1]), ([115, 116, 114, 105, 110, 103, 45, 116, 111, 45, 99, 111, 100, 101, 112, 111, 105, 110, 116, 115], [1]), ([115, 117, 98, 115, 101, 113, 117, 101, 110, 99, 101], [2, 3]), ([115, 117, 98, 115, 116, 114, 105, 110, 103], [2, 3]), ([115, 117, 98, 115, 116, 114, 105, 110, 103, 45, 97, 102, 116, 101, 114], [2]), ([115, 117, 98, 115, 116, 114, 105, 110, 103, 45, 98, 101, 102, 111, 114, 101], [2]), ([115, 117, 109], [1, 2]), ([116, 97, 105, 108], [1]), ([116, 105, 109, 101, 122, 111, 110, 101, 45, 102, 114, 111, 109], [1]), ([116, 111, 107, 101, 110, 105, 122, 101], [1, 2, 3]), ([116, 114, 97, 110, 115, 108, 97, 116, 101], [3]), ([116, 114, 117, 101], [0]), ([117, 112, 112, 101, 114, 45, 99, 97, 115, 101], [1]), ([119, 101, 101, 107, 100, 97, 121, 45, 102, 114, 111, 109], [1]), ([121, 101, 97, 114, 45, 102, 114, 111, 109], [1]), ([122, 101, 114, 111, 45, 111, 114, 45, 111, 110, 101], [1])]
def kT : List (Nat × Nat × List Nat) := kT0 ++ kT1 ++ kT2 ++ kT3 ++ kT4 ++ kT5 ++ kT6 ++ kT7 ++ kT8 ++ kT9 ++ kT10 ++ kT11 ++ kT12 ++ kT13 ++ kT14 ++ kT15 ++ kT16
theorem kT_eq : kT = kNames.map fun x => (x.1.length, natOf x.1, x.2) := by kernel_rfl
theorem kTab_eq : kTab = (6, natOf cat6) :: kNames.map fun x => (x.1.length, natOf x.1) := by kernel_rfl
theorem kT_all : kT.all kOne = true := by
  unfold kT
  simp only [List.all_append, k_c0, k_c1, k_c2, k_c3, k_c4, k_c5, k_c6, k_c7, k_c8, k_c9, k_c10, k_c11, k_c12, k_c13, k_c14, k_c15, k_c16, Bool.and_self]
theorem kHp_eq (K : Hp) : ∀ bs : List (Nat × Nat × List SV), kHp K bs = rowHp K bs
  | [] => rfl
  | x :: bs => by unfold kHp rowHp; rw [kHp_eq K bs]
theorem kE_eq (t : Nat) (h : kE0 t = true) : Tryz.prog.stoodInHeld t = false ∧ Tryz.prog.eqGuardType Tryz.prog.depth t = false := by cases h
theorem kE_ok [Opq] : EOk Tryz.prog kE := ⟨kE_eq, fun _ _ _ _ _ _ _ _ h => absurd rfl h, fun _ _ _ _ h => absurd rfl h⟩
theorem kX_at {f : Nat} {k : XK} (h : kX f = some k) : (f = 163 ∧ k = .same) ∨ (f = 164 ∧ k = (.makeNoZero 5)) ∨ (f = 173 ∧ k = .indexByteStr) := by
  unfold kX at h
  cases hb0 : Nat.beq f 163 with
  | true => rw [hb0, cond_true] at h; cases h; exact .inl ⟨Nat.eq_of_beq_eq_true hb0, rfl⟩
  | false =>
  rw [hb0, cond_false] at h
  cases hb1 : Nat.beq f 164 with
  | true => rw [hb1, cond_true] at h; cases h; exact .inr (.inl ⟨Nat.eq_of_beq_eq_true hb1, rfl⟩)
  | false =>
  rw [hb1, cond_false] at h
  cases hb2 : Nat.beq f 173 with
  | true => rw [hb2, cond_true] at h; cases h; exact .inr (.inr (⟨Nat.eq_of_beq_eq_true hb2, rfl⟩))
  | false =>
  rw [hb2, cond_false] at h
  cases h
theorem kX_ok [Opq] (I : Rho → World → Prop) : XOk I Tryz.prog kX where
  ext f k h _ := by
    rcases kX_at h with ⟨rfl, rfl⟩ | ⟨rfl, rfl⟩ | ⟨rfl, rfl⟩
    · exact row_same ⟨_, Tryz.func163, by kernel_rfl, by kernel_rfl, by kernel_rfl, by kernel_rfl⟩
    · exact row_makeNoZero (ps := Tryz.f164.params) (t := 99) ⟨_, Tryz.func164, by kernel_rfl, by kernel_rfl, by kernel_rfl, by kernel_rfl⟩ (by kernel_rfl)
    · exact row_indexByteStr ⟨_, Tryz.func173, by kernel_rfl, by kernel_rfl, by kernel_rfl, by kernel_rfl⟩
  known f rows h := by
    rcases kX_at h with ⟨_, h⟩ | ⟨_, h⟩ | ⟨_, h⟩ <;> cases h
theorem kEw_eq (t : Nat) (h : kEw0 t = true) : Tryz.prog.stoodInHeld t = false ∧ Tryz.prog.eqGuardType Tryz.prog.depth t = false := by
  simp only [kEw0, Bool.or_eq_true] at h
  rcases h with h | h | h | h
  · obtain rfl := Nat.eq_of_beq_eq_true h; exact ⟨by kernel_rfl, by kernel_rfl⟩
  · obtain rfl := Nat.eq_of_beq_eq_true h; exact ⟨by kernel_rfl, by kernel_rfl⟩
  · obtain rfl := Nat.eq_of_beq_eq_true h; exact ⟨by kernel_rfl, by kernel_rfl⟩
  · obtain rfl := Nat.eq_of_beq_eq_true h; exact ⟨by kernel_rfl, by kernel_rfl⟩
theorem kEw_ok [Opq] : EOk Tryz.prog kEw := ⟨kEw_eq, fun _ _ _ _ _ _ _ _ h => absurd rfl h, fun _ _ _ _ h => absurd rfl h⟩
theorem kW_ok [Opq] {ρ0 : Rho} (n0 : Nat) (h0 : ∀ b, 3 ≤ b → ρ0 b = none) : KRowOk (LaidI (rowHp .e kBs) ρ0 n0) Tryz.prog 6 kW :=
  krow_any_of_ev (E := kEw) (X := kX) (m := 1000) (by kernel_rfl) ⟨kEw_ok⟩ (kX_ok _) rowHp_ro (by kernel_rfl) h0 rfl rfl rfl (by kernel_rfl) (by kernel_rfl) (by kernel_rfl) (by rw [← kHp_eq]; exact kW_run)
theorem kY_at {f : Nat} {k : XK} (h : kY f = some k) : (f = 6 ∧ k = .known [kW]) ∨ (f = 27 ∧ k = .known [kI]) ∨ kX f = some k := by
  unfold kY at h
  cases hb0 : Nat.beq f 6 with
  | true => rw [hb0, cond_true] at h; cases h; exact .inl ⟨Nat.eq_of_beq_eq_true hb0, rfl⟩
  | false =>
  rw [hb0, cond_false] at h
  cases hb1 : Nat.beq f 27 with
  | true => rw [hb1, cond_true] at h; cases h; exact .inr (.inl ⟨Nat.eq_of_beq_eq_true hb1, rfl⟩)
  | false =>
  rw [hb1, cond_false] at h
  exact .inr (.inr h)
/-- what is known of the world: what is laid -/
abbrev kJ [Opq] (ρ0 : Rho) (n0 : Nat) : Rho → World → Prop := TabI Tryz.prog "internal/strconv.uint64pow10" .u64 pow10Tab (rowHp .e kBs) ρ0 n0
theorem kI_ok (s : ByteArray) (a : Int) (hlo : -9223372036854775808 ≤ a) (hhi : a ≤ 9223372036854775807) (ρ0 : Rho) (n0 : Nat) : letI := opqKnows s a; KRowOk (kJ ρ0 n0) Tryz.prog 27 kI := by
  letI := opqKnows s a
  exact itoa_row (by kernel_rfl) (fun _ _ h => h.2.1) (fun w ht => it_itoa skLays a hlo hhi w ht)
theorem kY_ok (s : ByteArray) (a : Int) (hlo : -9223372036854775808 ≤ a) (hhi : a ≤ 9223372036854775807) {ρ0 : Rho} (n0 : Nat) (h0 : ∀ b, 3 ≤ b → ρ0 b = none) : letI := opqKnows s a; XOk (kJ ρ0 n0) Tryz.prog kY := by
  letI := opqKnows s a
  refine ⟨fun f k h hk => ?_, fun f rows h => ?_⟩
  · rcases kY_at h with ⟨rfl, rfl⟩ | ⟨rfl, rfl⟩ | h
    · cases hk
    · cases hk
    · exact (kX_ok _).ext f k h hk
  · rcases kY_at h with ⟨rfl, h⟩ | ⟨rfl, h⟩ | h
    · cases h
      intro r hr
      simp only [List.mem_cons, List.not_mem_nil, or_false] at hr
      subst hr
      exact krow_anti (fun _ _ h => h.1) (kW_ok n0 h0)
    · cases h
      intro r hr
      simp only [List.mem_cons, List.not_mem_nil, or_false] at hr
      subst hr
      exact kI_ok s a hlo hhi ρ0 n0
    · exact (kX_ok _).known f rows h
theorem k_row (s : ByteArray) (a : Int) (hlo : -9223372036854775808 ≤ a) (hhi : a ≤ 9223372036854775807) (hnot : ¬ (s.data.toList = cat6 ∧ ∃ d : Nat, d < 10 ∧ a = d)) (ρ0 : Rho) (n0 : Nat) (h0 : ∀ b, 3 ≤ b → ρ0 b = none) :
    letI := opqKnows s a; KRowOk (kJ ρ0 n0) Tryz.prog 3 ⟨3, [.opq 0, .opq 200], [], .bool true, none⟩ := by
  letI := opqKnows s a
  refine sk_cases (T := kNames) (by kernel_rfl) hlo hhi (Run := fun nm ar long lng pre => kRun nm ar long lng pre = true) (fun nm ar long lng pre H h => ?_) k_long (fun x hx lng hl => ?_) k_cat (fun lng pre h => ?_) hnot
  · refine krow_of_ev (E := ⟨kE0, skO nm ar long lng pre, skS lng⟩) (X := kY) (m := 1000) (by kernel_rfl) ⟨sk_ok kE_eq H⟩ (kY_ok s a hlo hhi n0 h0) (TabI.ki rowHp_ro) rfl rfl (by kernel_rfl) ?_
    rw [← kHp_eq]
    exact h
  · have h1 : kOne (x.1.length, natOf x.1, x.2) = true := List.all_eq_true.1 kT_all _ (by rw [kT_eq]; exact List.mem_map.2 ⟨x, hx, rfl⟩)
    have key : kLng x.1.length (natOf x.1) x.2 lng = true := by
      unfold kOne at h1
      rw [Bool.and_eq_true] at h1
      cases lng with
      | true => exact h1.1
      | false =>
        have h5 := hl rfl
        have h2 := h1.2
        have h6 : Nat.ble 5 x.1.length = false := by
          cases hb : Nat.ble 5 x.1.length with
          | false => rfl
          | true => have := Nat.le_of_ble_eq_true hb; omega
        simp only [h6, cond_false] at h2
        exact h2
    unfold kLng at key
    rw [Bool.and_eq_true] at key
    exact ⟨key.1, fun k hk => List.all_eq_true.1 key.2 k hk⟩
  · rw [← kTab_eq]
    cases lng with
    | true => cases pre with
      | true => exact k_none_true_true
      | false => exact k_none_true_false
    | false => cases pre with
      | true => exact absurd (h rfl) (by decide)
      | false => exact k_none_false_false
theorem k_dig {d : Nat} (hd : d < 10) : kCat d = true := List.all_eq_true.1 k_digits d (by
  have : ∀ m : Fin 10, m.val ∈ [0, 1, 2, 3, 4, 5, 6, 7, 8, 9] := by decide
  exact this ⟨d, hd⟩)
theorem k_catrow (s : ByteArray) (d : Nat) (hd : d < 10) (ρ0 : Rho) (n0 : Nat) (h0 : ∀ b, 3 ≤ b → ρ0 b = none) :
    letI := opqKnows s d; KRowOk (kJ ρ0 n0) Tryz.prog 3 ⟨3, [.str 6 127961628831587, .int .i64 (.ofNat d)], [], .bool true, none⟩ := by
  letI := opqKnows s d
  refine krow_of_ev (E := kE) (X := kY) (m := 1000) (by kernel_rfl) ⟨kE_ok⟩ (kY_ok s d (by omega) (by omega) n0 h0) (TabI.ki rowHp_ro) rfl rfl (by kernel_rfl) ?_
  rw [← kHp_eq]
  exact k_dig hd
theorem kLaid_eq : Rows.laid_internal_strconv_uint64pow10 = (tabData .u64 pow10Tab : DataW Unit) := by kernel_rfl
theorem k_bs : ∀ x ∈ kBs, x.1 < 3 ∧ ∃ n d t m, (n, d) ∈ Rows.scopeKnowsRow.laid ∧ Tryz.prog.globalNamed n = some x.1 ∧ (Tryz.prog.globals[x.1]?).map (·.type) = some t ∧ plS Tryz.prog m t d = some x.2.2 := by
  intro x hx
  rcases List.mem_cons.1 hx with rfl | hx
  · exact ⟨by decide, "chisel/expr.tests", Rows.laid_chisel_expr_tests, 131, 6, by simp [Rows.scopeKnowsRow], by kernel_rfl, by kernel_rfl, by kernel_rfl⟩
  rcases List.mem_cons.1 hx with rfl | hx
  · exact ⟨by decide, "internal/strconv.uint64pow10", Rows.laid_internal_strconv_uint64pow10, 136, 6, by simp [Rows.scopeKnowsRow], by kernel_rfl, by kernel_rfl, by kernel_rfl⟩
  cases hx
theorem k_global (g : Nat) (h : Tryz.prog.globalNamed "internal/strconv.uint64pow10" = some g) : g < 3 := by
  have h1 : Tryz.prog.globalNamed "internal/strconv.uint64pow10" = some 1 := by kernel_rfl
  rw [h1] at h
  cases h
  decide
theorem k_calls {W : World} (hsh : W.ShapedOpen Tryz.prog) (hL : laidMetH Tryz.prog Rows.scopeKnowsRow.laid W) (s : ByteArray) (a : Int) (hlo : -9223372036854775808 ≤ a) (hhi : a ≤ 9223372036854775807) :
    Calls Tryz.prog 3 #[.string s, .int .i64 a] W (fun e w' => e = .returned (.bool true) ∧ RowKit.Below W.heap.size W w') := by
  rw [MakeChecks.laidMetH_plain _ _ _ (by kernel_rfl)] at hL
  have hT : TabIs Tryz.prog W "internal/strconv.uint64pow10" .u64 pow10Tab := tab_of_laid (e := 93) (n := 20) hL (by rw [← kLaid_eq]; simp [Rows.scopeKnowsRow]) (g := 1) (t := 136) (by kernel_rfl) (by kernel_rfl) Tryz.underlying136 Tryz.underlying93 (by kernel_rfl) (by kernel_rfl)
  by_cases hnot : s.data.toList = cat6 ∧ ∃ d : Nat, d < 10 ∧ a = d
  · obtain ⟨hc, d, hd, rfl⟩ := hnot
    letI := opqKnows s d
    refine calls_args_tab (bs := kBs) (vs := [.string s, .int .i64 (d : Int)]) (by kernel_rfl) (show ∀ ρ : Rho, VRs ρ [.str 6 127961628831587, .int .i64 (.ofNat d)] [.string s, .int .i64 (d : Int)] from fun ρ => VRs.cons ?_ (VRs.cons (by simp [VR]) VRs.nil)) (k_catrow s d hd) k_bs (by kernel_rfl) hsh hL hT k_global
    simp only [VR]
    refine ⟨s, rfl, ?_, ?_⟩
    · have h1 := congrArg List.length hc
      simpa [cat6] using h1
    · rw [hc]
      rfl
  · letI := opqKnows s a
    exact calls_args_tab (bs := kBs) (vs := [.string s, .int .i64 a]) (by kernel_rfl) (show ∀ ρ : Rho, VRs ρ [.opq 0, .opq 200] [.string s, .int .i64 a] from fun ρ => VRs.cons rfl (VRs.cons rfl VRs.nil)) (k_row s a hlo hhi hnot) k_bs (by kernel_rfl) hsh hL hT k_global
theorem k_int {n : Int} (h : (Lit.int .i64 n).wf = true) : -9223372036854775808 ≤ n ∧ n ≤ 9223372036854775807 := by
  have h1 : IntKind.i64.min = -9223372036854775808 := rfl
  have h2 : IntKind.i64.max = 9223372036854775807 := rfl
  simp [Lit.wf, h1, h2] at h
  exact h
theorem k_own : ownKnob Tryz.prog.godebug = none := by kernel_rfl
set_option maxRecDepth 100000 in
theorem k_lifted (os : Os) (started : os.Started) (H : Type) (enc : TypeId × Value → H) :
    ReturnsInHanded {} Tryz.checked os 3 .any (fun w args => (Rows.scopeKnowsSpec.pre enc Tryz.prog Tryz.f3 [] false w args ∧ laidMetH Tryz.prog Rows.scopeKnowsRow.laid w) ∧ sizedMet enc Tryz.prog Tryz.f3 (OpenSpec.ofChange Rows.scopeKnowsSpec) false w args)
      (Rows.scopeKnowsSpec.post enc Tryz.prog Tryz.f3 false true false false) := by
  letI : Opq := opqNone
  refine args_lifted (C := Tryz.checked) (t := 4) os started H enc k_own (by kernel_rfl) Tryz.func3 (by kernel_rfl) Tryz.underlying4 rfl (fun K ds hl => ?_)
    (ChangeSpec.witness_shaped (enc := enc) (C := Tryz.checked) (os := os) (X := fun w _ => laidMetH Tryz.prog Rows.scopeKnowsRow.laid w) false (World.laidAll Tryz.prog os Rows.scopeKnowsRow.laid) #[.string .empty, .int .i64 0] 8 (World.laidAll_os _ _ _)
      (World.shaped_of_ZipB (by kernel_rfl) (by kernel_rfl)) (by kernel_rfl) (by kernel_rfl) (by kernel_rfl)
      (by rw [MakeChecks.laidMetH_plain _ _ _ (by kernel_rfl)]; exact laidMet_laidAll _ (by kernel_rfl) (by kernel_rfl))) ?_
  · rw [show Tryz.f3.params = #[9, 3] from Tryz.params3] at hl
    match ds, hl with
    | [d1, d2], _ => rfl
  · intro W base args ds p hsh hx hval0 hA0 _
    have hval : ∀ (j : Nat) t v, Tryz.f3.params[j]? = some t → args[j]? = some v → Value.okWide Tryz.prog W .any base t v := hval0
    have hA : DataW.TrodAll enc Tryz.prog W 0 (fun _ => true) true Tryz.f3.params.toList args.toList ds p := hA0
    show Calls Tryz.prog 3 args W (fun e w' => e = .returned (.bool true) ∧ RowKit.Below W.heap.size W w' ∧ ∃ p', DataW.TrodAll enc Tryz.prog w' 0 (fun b => decide (b < W.heap.size)) true Tryz.f3.params.toList args.toList ds p')
    rw [Tryz.params3] at hA hval ⊢
    obtain ⟨v0, vs0, d0, ds0, p0, q0, hargs, rfl, rfl, h0, r0⟩ := trodAll_cons hA
    obtain ⟨v1, vs1, d1, ds1, p1, q1, rfl, rfl, rfl, h1, r1⟩ := trodAll_cons r0
    obtain ⟨rfl, rfl, rfl⟩ := trodAll_nil r1
    obtain rfl : args = #[v0, v1] := by cases args; simp_all
    obtain ⟨s0, rfl, rfl, rfl, w0⟩ := open_string Tryz.underlying9 (hval 0 9 v0 rfl rfl) h0
    obtain ⟨a1, rfl, rfl, rfl, w1⟩ := open_int Tryz.underlying3 (hval 1 3 v1 rfl rfl) h1
    obtain ⟨hlo, hhi⟩ := k_int w1
    refine (k_calls hsh hx s0 a1 hlo hhi).mono fun e W' ⟨he, bel⟩ => ?_
    exact ⟨he, bel, _, trodAll_cons_mk (shut_string Tryz.underlying9 w0) (trodAll_cons_mk (shut_int Tryz.underlying3 w1) trodAll_mk0)⟩
theorem k_holds : Rows.ScopeKnowsSaid :=
  OpenClaim.holds_of_wide 3 Tryz.f3 rfl rfl rfl rfl rfl rfl rfl ⟨rfl, rfl, rfl, rfl, rfl⟩ rfl rfl rfl rfl rfl (by kernel_rfl) Tryz.func3 (by kernel_rfl)
    (of_decide_eq_true (by kernel_rfl)) (by unfold Func.isWrapper; first | (rw [if_pos (by decide +kernel)]; kernel_rfl) | (rw [if_neg (by decide +kernel)]; exact ⟨rfl, rfl⟩))
    (fun os started H enc _ => k_lifted os started H enc)
theorem scopeKnows_card : Rows.ScopeKnowsCardSaid :=
  Claim7.holds_tied_plain_at .later [] [.data, .widerDeep] true (true, "0f56abc0233e20dfa72bfe78dcc7f59b6f32e9b381e8385b7c0bd3d814069d15") false
    k_holds (fun _ h => by cases h) (by kernel_rfl) (fun _ h => by cases h) scopeKnows_row_tie rfl ⟨rfl, rfl⟩ (by kernel_rfl) rfl
    (fun f fn hf hfn => by
      obtain rfl : f = 3 := Option.some.inj ((show Tryz.prog.funcNamed "chisel/chisellaw20.ScopeKnows" = some 3 by kernel_rfl).symm.trans hf) |>.symm
      obtain rfl : fn = Tryz.f3 := (Option.some.inj (Tryz.func3.symm.trans hfn)).symm
      exact ⟨by kernel_rfl, fun j t ht => by
        rw [show Tryz.f3.params = #[9, 3] from Tryz.params3] at ht
        have h : t = 9 ∨ t = 3 := by
          match j, ht with
          | 0, ht => exact .inl (by simpa using ht.symm)
          | 1, ht => exact .inr (by simpa using ht.symm)
          | j + 2, ht => simp at ht
        rcases h with rfl | rfl
        · show Tryz.prog.wantsStandIn 9 = false
          kernel_rfl
        · show Tryz.prog.wantsStandIn 3 = false
          kernel_rfl⟩)
    (by kernel_rfl)
#print axioms scopeKnows_card
end Go.Proofs.YtbgbjlidigojlaaGreatDoor
