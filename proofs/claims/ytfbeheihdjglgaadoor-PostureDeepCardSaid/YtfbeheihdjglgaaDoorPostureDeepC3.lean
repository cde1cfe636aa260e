/- Part of the proof that the law PostureDeep answers true: evaluations. No condition. -/
import Derived.Test.YtfbeheihdjglgaaDoorPostureDeepD
namespace Go.Proofs.YtfbeheihdjglgaaDoor
open Go Go.Sh Go.Pd
set_option maxRecDepth 10000000 in
theorem k_law_9_2 : kLaw 9 2 = true := by kernel_rfl
end Go.Proofs.YtfbeheihdjglgaaDoor
