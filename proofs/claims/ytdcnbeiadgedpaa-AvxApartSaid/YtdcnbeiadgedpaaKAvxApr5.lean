/- Function 6, run for some of its cases. Written by a program of this claim's (genapart.py). -/
import Derived.Test.YtdcnbeiadgedpaaKAvxApb
namespace Go.Proofs.YtdcnbeiadgedpaaAK.KAvx.KAvxAp
open Go.Proofs Go.Proofs.YtdcnbeiadgedpaaAK Go.Proofs.YtdcnbeiadgedpaaAK.KAvx
set_option maxRecDepth 100000
theorem r80 : all1 one 80 2 = true := by kernel_rfl
theorem r82 : all1 one 82 2 = true := by kernel_rfl
theorem r84 : all1 one 84 2 = true := by kernel_rfl
theorem r86 : all1 one 86 2 = true := by kernel_rfl
theorem r88 : all1 one 88 2 = true := by kernel_rfl
theorem r90 : all1 one 90 2 = true := by kernel_rfl
theorem r92 : all1 one 92 2 = true := by kernel_rfl
theorem r94 : all1 one 94 2 = true := by kernel_rfl
end Go.Proofs.YtdcnbeiadgedpaaAK.KAvx.KAvxAp
