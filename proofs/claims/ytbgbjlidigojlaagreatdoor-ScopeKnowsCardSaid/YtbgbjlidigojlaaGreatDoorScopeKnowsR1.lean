/- Part of the proof that the law ScopeKnows answers true: evaluations. No condition. -/
import Derived.Test.YtbgbjlidigojlaaGreatDoorScopeKnowsD
namespace Go.Proofs.YtbgbjlidigojlaaGreatDoor
open Go Go.Sh Go.Sk
set_option maxRecDepth 10000000 in
theorem k_digits : ([0, 1, 2, 3, 4, 5, 6, 7, 8, 9].all kCat) = true := by kernel_rfl
end Go.Proofs.YtbgbjlidigojlaaGreatDoor
