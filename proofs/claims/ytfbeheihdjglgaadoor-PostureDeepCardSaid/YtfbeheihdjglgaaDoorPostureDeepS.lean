/- Part of the proof that the law PostureDeep answers true: evaluations. No condition. -/
import Derived.Test.YtfbeheihdjglgaaDoorPd
import Derived.Test.YtfbeheihdjglgaaDoorPostureDeepD
namespace Go.Proofs.YtfbeheihdjglgaaDoor
open Go Go.Sh Go.Pd
/-- the arguments of posture's body and of the document's -/
def mk7 (c : Nat) (d l : SV) : List SV := [.agg [.int .i64 (.ofNat c), d], l]
def mk8 (c : Nat) (d l : SV) : List SV := [l, .int .i64 (.ofNat c), d]
def mv7 (c : Nat) (d l : Value) : List Value := [.agg #[.int .i64 (.ofNat c), d], l]
def mv8 (c : Nat) (d l : Value) : List Value := [l, .int .i64 (.ofNat c), d]
theorem kV7_0 : PdEvs Tryd.prog kE0 kX (rowHp .e kBs) 3 7 (mk7 0) where
  nil := by kernel_rfl
  deep kd h := by
    simp only [List.mem_cons, List.not_mem_nil, or_false] at h
    rcases h with rfl | rfl | rfl | rfl <;> kernel_rfl
  one kd h r := by
    simp only [List.mem_cons, List.not_mem_nil, or_false] at h
    rcases h with rfl | rfl <;> cases r <;> kernel_rfl
  els := by kernel_rfl
  ch1 := by kernel_rfl
  ch2 r := by cases r <;> kernel_rfl
theorem kV7_1 : PdEvs Tryd.prog kE0 kX (rowHp .e kBs) 3 7 (mk7 1) where
  nil := by kernel_rfl
  deep kd h := by
    simp only [List.mem_cons, List.not_mem_nil, or_false] at h
    rcases h with rfl | rfl | rfl | rfl <;> kernel_rfl
  one kd h r := by
    simp only [List.mem_cons, List.not_mem_nil, or_false] at h
    rcases h with rfl | rfl <;> cases r <;> kernel_rfl
  els := by kernel_rfl
  ch1 := by kernel_rfl
  ch2 r := by cases r <;> kernel_rfl
theorem kV7_2 : PdEvs Tryd.prog kE0 kX (rowHp .e kBs) 3 7 (mk7 2) where
  nil := by kernel_rfl
  deep kd h := by
    simp only [List.mem_cons, List.not_mem_nil, or_false] at h
    rcases h with rfl | rfl | rfl | rfl <;> kernel_rfl
  one kd h r := by
    simp only [List.mem_cons, List.not_mem_nil, or_false] at h
    rcases h with rfl | rfl <;> cases r <;> kernel_rfl
  els := by kernel_rfl
  ch1 := by kernel_rfl
  ch2 r := by cases r <;> kernel_rfl
theorem kV7_3 : PdEvs Tryd.prog kE0 kX (rowHp .e kBs) 3 7 (mk7 3) where
  nil := by kernel_rfl
  deep kd h := by
    simp only [List.mem_cons, List.not_mem_nil, or_false] at h
    rcases h with rfl | rfl | rfl | rfl <;> kernel_rfl
  one kd h r := by
    simp only [List.mem_cons, List.not_mem_nil, or_false] at h
    rcases h with rfl | rfl <;> cases r <;> kernel_rfl
  els := by kernel_rfl
  ch1 := by kernel_rfl
  ch2 r := by cases r <;> kernel_rfl
theorem kV8_0 : PdEvs Tryd.prog kE0 kX (rowHp .e kBs) 3 8 (mk8 0) where
  nil := by kernel_rfl
  deep kd h := by
    simp only [List.mem_cons, List.not_mem_nil, or_false] at h
    rcases h with rfl | rfl | rfl | rfl <;> kernel_rfl
  one kd h r := by
    simp only [List.mem_cons, List.not_mem_nil, or_false] at h
    rcases h with rfl | rfl <;> cases r <;> kernel_rfl
  els := by kernel_rfl
  ch1 := by kernel_rfl
  ch2 r := by cases r <;> kernel_rfl
theorem kV8_1 : PdEvs Tryd.prog kE0 kX (rowHp .e kBs) 3 8 (mk8 1) where
  nil := by kernel_rfl
  deep kd h := by
    simp only [List.mem_cons, List.not_mem_nil, or_false] at h
    rcases h with rfl | rfl | rfl | rfl <;> kernel_rfl
  one kd h r := by
    simp only [List.mem_cons, List.not_mem_nil, or_false] at h
    rcases h with rfl | rfl <;> cases r <;> kernel_rfl
  els := by kernel_rfl
  ch1 := by kernel_rfl
  ch2 r := by cases r <;> kernel_rfl
theorem kV8_2 : PdEvs Tryd.prog kE0 kX (rowHp .e kBs) 3 8 (mk8 2) where
  nil := by kernel_rfl
  deep kd h := by
    simp only [List.mem_cons, List.not_mem_nil, or_false] at h
    rcases h with rfl | rfl | rfl | rfl <;> kernel_rfl
  one kd h r := by
    simp only [List.mem_cons, List.not_mem_nil, or_false] at h
    rcases h with rfl | rfl <;> cases r <;> kernel_rfl
  els := by kernel_rfl
  ch1 := by kernel_rfl
  ch2 r := by cases r <;> kernel_rfl
theorem kV8_3 : PdEvs Tryd.prog kE0 kX (rowHp .e kBs) 3 8 (mk8 3) where
  nil := by kernel_rfl
  deep kd h := by
    simp only [List.mem_cons, List.not_mem_nil, or_false] at h
    rcases h with rfl | rfl | rfl | rfl <;> kernel_rfl
  one kd h r := by
    simp only [List.mem_cons, List.not_mem_nil, or_false] at h
    rcases h with rfl | rfl <;> cases r <;> kernel_rfl
  els := by kernel_rfl
  ch1 := by kernel_rfl
  ch2 r := by cases r <;> kernel_rfl
theorem kT4_0 (r : Bool) : pdTop Tryd.prog kE0 kX (rowHp .e kBs) 3 4 7 {} [⟨0, mk7 0 (.int .i64 1) (.opq 100), [], resV r, none⟩] (.int .i64 (.ofNat 0)) r = true := by cases r <;> kernel_rfl
theorem kT4_1 (r : Bool) : pdTop Tryd.prog kE0 kX (rowHp .e kBs) 3 4 7 {} [⟨0, mk7 1 (.int .i64 1) (.opq 100), [], resV r, none⟩] (.int .i64 (.ofNat 1)) r = true := by cases r <;> kernel_rfl
theorem kT4_2 (r : Bool) : pdTop Tryd.prog kE0 kX (rowHp .e kBs) 3 4 7 {} [⟨0, mk7 2 (.int .i64 1) (.opq 100), [], resV r, none⟩] (.int .i64 (.ofNat 2)) r = true := by cases r <;> kernel_rfl
theorem kT4_3 (r : Bool) : pdTop Tryd.prog kE0 kX (rowHp .e kBs) 3 4 7 {} [⟨0, mk7 3 (.int .i64 1) (.opq 100), [], resV r, none⟩] (.int .i64 (.ofNat 3)) r = true := by cases r <;> kernel_rfl
theorem kT4 : PdTops Tryd.prog kE0 kX (rowHp .e kBs) 3 4 7 mk7 where
  inn c h r := match c, h with
    | 0, _ => kT4_0 r
    | 1, _ => kT4_1 r
    | 2, _ => kT4_2 r
    | 3, _ => kT4_3 r
    | c + 4, h => absurd h (by omega)
  four := by kernel_rfl
  lo := by kernel_rfl
  hi := by kernel_rfl
  body := by kernel_rfl
theorem kT5_0 (r : Bool) : pdTop Tryd.prog kE0 kX (rowHp .e kBs) 3 5 8 {} [⟨0, mk8 0 (.int .i64 1) (.opq 100), [], resV r, none⟩] (.int .i64 (.ofNat 0)) r = true := by cases r <;> kernel_rfl
theorem kT5_1 (r : Bool) : pdTop Tryd.prog kE0 kX (rowHp .e kBs) 3 5 8 {} [⟨0, mk8 1 (.int .i64 1) (.opq 100), [], resV r, none⟩] (.int .i64 (.ofNat 1)) r = true := by cases r <;> kernel_rfl
theorem kT5_2 (r : Bool) : pdTop Tryd.prog kE0 kX (rowHp .e kBs) 3 5 8 {} [⟨0, mk8 2 (.int .i64 1) (.opq 100), [], resV r, none⟩] (.int .i64 (.ofNat 2)) r = true := by cases r <;> kernel_rfl
theorem kT5_3 (r : Bool) : pdTop Tryd.prog kE0 kX (rowHp .e kBs) 3 5 8 {} [⟨0, mk8 3 (.int .i64 1) (.opq 100), [], resV r, none⟩] (.int .i64 (.ofNat 3)) r = true := by cases r <;> kernel_rfl
theorem kT5 : PdTops Tryd.prog kE0 kX (rowHp .e kBs) 3 5 8 mk8 where
  inn c h r := match c, h with
    | 0, _ => kT5_0 r
    | 1, _ => kT5_1 r
    | 2, _ => kT5_2 r
    | 3, _ => kT5_3 r
    | c + 4, h => absurd h (by omega)
  four := by kernel_rfl
  lo := by kernel_rfl
  hi := by kernel_rfl
  body := by kernel_rfl
end Go.Proofs.YtfbeheihdjglgaaDoor
