/- Function 6, run for some of its cases. Written by a program of this claim's (genapart.py). -/
import Derived.Test.YtdcnbeiadgedpaaKAvxApb
namespace Go.Proofs.YtdcnbeiadgedpaaAK.KAvx.KAvxAp
open Go.Proofs Go.Proofs.YtdcnbeiadgedpaaAK Go.Proofs.YtdcnbeiadgedpaaAK.KAvx
set_option maxRecDepth 100000
theorem r32 : all1 one 32 2 = true := by kernel_rfl
theorem r34 : all1 one 34 2 = true := by kernel_rfl
theorem r36 : all1 one 36 2 = true := by kernel_rfl
theorem r38 : all1 one 38 2 = true := by kernel_rfl
theorem r40 : all1 one 40 2 = true := by kernel_rfl
theorem r42 : all1 one 42 2 = true := by kernel_rfl
theorem r44 : all1 one 44 2 = true := by kernel_rfl
theorem r46 : all1 one 46 2 = true := by kernel_rfl
end Go.Proofs.YtdcnbeiadgedpaaAK.KAvx.KAvxAp
