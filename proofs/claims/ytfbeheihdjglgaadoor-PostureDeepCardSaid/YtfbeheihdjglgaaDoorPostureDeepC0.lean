/- Part of the proof that the law PostureDeep answers true: evaluations. No condition. -/
import Derived.Test.YtfbeheihdjglgaaDoorPostureDeepD
namespace Go.Proofs.YtfbeheihdjglgaaDoor
open Go Go.Sh Go.Pd
set_option maxRecDepth 10000000 in
theorem k_law_0_0 : kLaw 0 0 = true := by kernel_rfl
set_option maxRecDepth 10000000 in
theorem k_law_0_1 : kLaw 0 1 = true := by kernel_rfl
set_option maxRecDepth 10000000 in
theorem k_law_0_2 : kLaw 0 2 = true := by kernel_rfl
set_option maxRecDepth 10000000 in
theorem k_law_1_0 : kLaw 1 0 = true := by kernel_rfl
set_option maxRecDepth 10000000 in
theorem k_law_1_1 : kLaw 1 1 = true := by kernel_rfl
set_option maxRecDepth 10000000 in
theorem k_law_1_2 : kLaw 1 2 = true := by kernel_rfl
set_option maxRecDepth 10000000 in
theorem k_law_2_0 : kLaw 2 0 = true := by kernel_rfl
set_option maxRecDepth 10000000 in
theorem k_law_2_1 : kLaw 2 1 = true := by kernel_rfl
set_option maxRecDepth 10000000 in
theorem k_law_2_2 : kLaw 2 2 = true := by kernel_rfl
set_option maxRecDepth 10000000 in
theorem k_law_3_0 : kLaw 3 0 = true := by kernel_rfl
end Go.Proofs.YtfbeheihdjglgaaDoor
