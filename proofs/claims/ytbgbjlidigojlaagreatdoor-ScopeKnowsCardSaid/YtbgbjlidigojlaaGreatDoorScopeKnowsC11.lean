/- Part of the proof that the law ScopeKnows answers true: evaluations. No condition. -/
import Derived.Test.YtbgbjlidigojlaaGreatDoorScopeKnowsD
namespace Go.Proofs.YtbgbjlidigojlaaGreatDoor
open Go Go.Sh Go.Sk
set_option maxRecDepth 10000000 in
theorem k_c11 : (kT11.all kOne) = true := by kernel_rfl
end Go.Proofs.YtbgbjlidigojlaaGreatDoor
