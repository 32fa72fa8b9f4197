/- Call 3, run by the abstract machine. -/
import Derived.Test.YtdkcpdmpdpglbaaGreatDoorCok
set_option autoImplicit false
set_option maxRecDepth 1000000
namespace Go.Proofs
open Go Go.Ab
theorem Tryz.run3 : runs (Tryz.C0.memo []) 1000000 Go.Ab.T.m3 = true := by kernel_rfl
end Go.Proofs
