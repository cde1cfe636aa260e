/- Part of the proof that the law PostureDeep answers true: evaluations. No condition. -/
import Derived.Test.YtfbeheihdjglgaaDoorPostureDeepD
namespace Go.Proofs.YtfbeheihdjglgaaDoor
open Go Go.Sh Go.Pd
set_option maxRecDepth 10000000 in
theorem k_law_6_2 : kLaw 6 2 = true := by kernel_rfl
set_option maxRecDepth 10000000 in
theorem k_law_7_0 : kLaw 7 0 = true := by kernel_rfl
set_option maxRecDepth 10000000 in
theorem k_law_7_1 : kLaw 7 1 = true := by kernel_rfl
set_option maxRecDepth 10000000 in
theorem k_law_7_2 : kLaw 7 2 = true := by kernel_rfl
set_option maxRecDepth 10000000 in
theorem k_law_8_0 : kLaw 8 0 = true := by kernel_rfl
set_option maxRecDepth 10000000 in
theorem k_law_8_1 : kLaw 8 1 = true := by kernel_rfl
set_option maxRecDepth 10000000 in
theorem k_law_8_2 : kLaw 8 2 = true := by kernel_rfl
set_option maxRecDepth 10000000 in
theorem k_law_9_0 : kLaw 9 0 = true := by kernel_rfl
set_option maxRecDepth 10000000 in
theorem k_law_9_1 : kLaw 9 1 = true := by kernel_rfl
end Go.Proofs.YtfbeheihdjglgaaDoor
