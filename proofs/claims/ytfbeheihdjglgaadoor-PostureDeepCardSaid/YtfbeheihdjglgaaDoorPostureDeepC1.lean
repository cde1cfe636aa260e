/- Part of the proof that the law PostureDeep answers true: evaluations. No condition. -/
import Derived.Test.YtfbeheihdjglgaaDoorPostureDeepD
namespace Go.Proofs.YtfbeheihdjglgaaDoor
open Go Go.Sh Go.Pd
set_option maxRecDepth 10000000 in
theorem k_law_3_1 : kLaw 3 1 = true := by kernel_rfl
set_option maxRecDepth 10000000 in
theorem k_law_3_2 : kLaw 3 2 = true := by kernel_rfl
set_option maxRecDepth 10000000 in
theorem k_law_4_0 : kLaw 4 0 = true := by kernel_rfl
set_option maxRecDepth 10000000 in
theorem k_law_4_1 : kLaw 4 1 = true := by kernel_rfl
set_option maxRecDepth 10000000 in
theorem k_law_4_2 : kLaw 4 2 = true := by kernel_rfl
set_option maxRecDepth 10000000 in
theorem k_law_5_0 : kLaw 5 0 = true := by kernel_rfl
set_option maxRecDepth 10000000 in
theorem k_law_5_1 : kLaw 5 1 = true := by kernel_rfl
set_option maxRecDepth 10000000 in
theorem k_law_5_2 : kLaw 5 2 = true := by kernel_rfl
set_option maxRecDepth 10000000 in
theorem k_law_6_0 : kLaw 6 0 = true := by kernel_rfl
set_option maxRecDepth 10000000 in
theorem k_law_6_1 : kLaw 6 1 = true := by kernel_rfl
end Go.Proofs.YtfbeheihdjglgaaDoor
