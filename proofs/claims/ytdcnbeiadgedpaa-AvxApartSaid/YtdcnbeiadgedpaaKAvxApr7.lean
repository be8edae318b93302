/- Function 6, run for some of its cases. Written by a program of this claim's (genapart.py). -/
import Derived.Test.YtdcnbeiadgedpaaKAvxApb
namespace Go.Proofs.YtdcnbeiadgedpaaAK.KAvx.KAvxAp
open Go.Proofs Go.Proofs.YtdcnbeiadgedpaaAK Go.Proofs.YtdcnbeiadgedpaaAK.KAvx
set_option maxRecDepth 100000
theorem r112 : all1 one 112 2 = true := by kernel_rfl
theorem r114 : all1 one 114 2 = true := by kernel_rfl
theorem r116 : all1 one 116 2 = true := by kernel_rfl
theorem r118 : all1 one 118 2 = true := by kernel_rfl
theorem r120 : all1 one 120 2 = true := by kernel_rfl
end Go.Proofs.YtdcnbeiadgedpaaAK.KAvx.KAvxAp
