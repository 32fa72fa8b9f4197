/- Call 1, run by the abstract machine. -/
import Derived.Test.YtdkcpdmpdpglbaaGreatDoorCok
set_option autoImplicit false
set_option maxRecDepth 1000000
namespace Go.Proofs
open Go Go.Ab
theorem Tryz.run1 : runs (Tryz.C0.memo []) 1000000 Go.Ab.T.m1 = true := by kernel_rfl
end Go.Proofs
