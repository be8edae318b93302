/- Function 6, run for some of its cases. Written by a program of this claim's (genapart.py). -/
import Derived.Test.YtdcnbeiadgedpaaKAvxApb
namespace Go.Proofs.YtdcnbeiadgedpaaAK.KAvx.KAvxAp
open Go.Proofs Go.Proofs.YtdcnbeiadgedpaaAK Go.Proofs.YtdcnbeiadgedpaaAK.KAvx
set_option maxRecDepth 100000
theorem r48 : all1 one 48 2 = true := by kernel_rfl
theorem r50 : all1 one 50 2 = true := by kernel_rfl
theorem r52 : all1 one 52 2 = true := by kernel_rfl
theorem r54 : all1 one 54 2 = true := by kernel_rfl
theorem r56 : all1 one 56 2 = true := by kernel_rfl
theorem r58 : all1 one 58 2 = true := by kernel_rfl
theorem r60 : all1 one 60 2 = true := by kernel_rfl
theorem r62 : all1 one 62 2 = true := by kernel_rfl
end Go.Proofs.YtdcnbeiadgedpaaAK.KAvx.KAvxAp
