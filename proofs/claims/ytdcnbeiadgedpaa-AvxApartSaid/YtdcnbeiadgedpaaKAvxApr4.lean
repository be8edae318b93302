/- Function 6, run for some of its cases. Written by a program of this claim's (genapart.py). -/
import Derived.Test.YtdcnbeiadgedpaaKAvxApb
namespace Go.Proofs.YtdcnbeiadgedpaaAK.KAvx.KAvxAp
open Go.Proofs Go.Proofs.YtdcnbeiadgedpaaAK Go.Proofs.YtdcnbeiadgedpaaAK.KAvx
set_option maxRecDepth 100000
theorem r64 : all1 one 64 2 = true := by kernel_rfl
theorem r66 : all1 one 66 2 = true := by kernel_rfl
theorem r68 : all1 one 68 2 = true := by kernel_rfl
theorem r70 : all1 one 70 2 = true := by kernel_rfl
theorem r72 : all1 one 72 2 = true := by kernel_rfl
theorem r74 : all1 one 74 2 = true := by kernel_rfl
theorem r76 : all1 one 76 2 = true := by kernel_rfl
theorem r78 : all1 one 78 2 = true := by kernel_rfl
end Go.Proofs.YtdcnbeiadgedpaaAK.KAvx.KAvxAp
