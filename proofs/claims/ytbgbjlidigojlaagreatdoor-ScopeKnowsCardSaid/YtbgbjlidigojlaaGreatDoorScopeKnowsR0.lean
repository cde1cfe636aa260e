/- Part of the proof that the law ScopeKnows answers true: evaluations. No condition. -/
import Derived.Test.YtbgbjlidigojlaaGreatDoorScopeKnowsD
namespace Go.Proofs.YtbgbjlidigojlaaGreatDoor
open Go Go.Sh Go.Sk
/-- the struct types that works compares -/
def kEw0 (t : Nat) : Bool := (Nat.beq t 25 || (Nat.beq t 27 || (Nat.beq t 29 || Nat.beq t 39)))
def kEw : EE := ⟨kEw0, fun _ _ _ => .bad, fun _ _ _ => .bad⟩
set_option maxRecDepth 10000000 in
theorem kW_run : (ev kEw kX Tryz.prog 1001).f.f 6 kW.args ⟨kHp .e kBs, 3, big⟩ (rowEnd kW) (fun _ _ => false) = true := by kernel_rfl
set_option maxRecDepth 10000000 in
theorem k_long (lng pre : Bool) : kRun skNo2 skNo1 true lng pre = true := by kernel_rfl
set_option maxRecDepth 10000000 in
theorem k_none_false_false : kRun (skNmT kTab) skNo1 false false false = true := by kernel_rfl
set_option maxRecDepth 10000000 in
theorem k_none_true_false : kRun (skNmT kTab) skNo1 false true false = true := by kernel_rfl
set_option maxRecDepth 10000000 in
theorem k_none_true_true : kRun (skNmT kTab) skNo1 false true true = true := by kernel_rfl
set_option maxRecDepth 10000000 in
theorem k_cat : kRun (skNmL 6 127961628831587) (skArNot [0, 1, 2, 3, 4, 5, 6, 7, 8, 9]) false true true = true := by kernel_rfl
end Go.Proofs.YtbgbjlidigojlaaGreatDoor
