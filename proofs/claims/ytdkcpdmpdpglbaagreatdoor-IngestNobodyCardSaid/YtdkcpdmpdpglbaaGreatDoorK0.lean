/- The smaller calls, and the closed call itself. -/
import Derived.Test.YtdkcpdmpdpglbaaGreatDoorCok
set_option autoImplicit false
set_option maxRecDepth 1000000
namespace Go.Proofs
open Go Go.Ab
theorem Tryz.run0 : runs (Tryz.C0.memo []) 1000000 Go.Ab.T.m0 = true := by kernel_rfl
theorem Tryz.run2 : runs (Tryz.C0.memo [Go.Ab.T.m1]) 1000000 Go.Ab.T.m2 = true := by kernel_rfl
theorem Tryz.run4 : runs (Tryz.C0.memo [Go.Ab.T.m3]) 1000000 Go.Ab.T.m4 = true := by kernel_rfl
theorem Tryz.run5 : runs (Tryz.C0.memo []) 1000000 Go.Ab.T.m5 = true := by kernel_rfl
theorem Tryz.run6 : runs (Tryz.C0.memo []) 1000000 Go.Ab.T.m6 = true := by kernel_rfl
theorem Tryz.run7 : runs (Tryz.C0.memo []) 1000000 Go.Ab.T.m7 = true := by kernel_rfl
def Tryz.top : List Memo := [Go.Ab.T.m0, Go.Ab.T.m2, Go.Ab.T.m4, Go.Ab.T.m5, Go.Ab.T.m6, Go.Ab.T.m7]
theorem Tryz.runTop : runsTo (Tryz.C0.memo Tryz.top) 1000000 5 (st0 3) (.bool true) = true := by kernel_rfl
end Go.Proofs
