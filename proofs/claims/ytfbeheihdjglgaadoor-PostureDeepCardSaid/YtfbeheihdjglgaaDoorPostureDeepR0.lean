/- Part of the proof that the law PostureDeep answers true: evaluations. No condition. -/
import Derived.Test.YtfbeheihdjglgaaDoorPostureDeepD
namespace Go.Proofs.YtfbeheihdjglgaaDoor
open Go Go.Sh Go.Pd
set_option maxRecDepth 10000000 in
theorem kW_run : (ev kE kX Tryd.prog 1001).f.f 6 kW.args ⟨kHp .e kBs, 3, big⟩ (rowEnd kW) (fun _ _ => false) = true := by kernel_rfl
end Go.Proofs.YtfbeheihdjglgaaDoor
