/- Function 6, run for some of its cases. Written by a program of this claim's (genapart.py). -/
import Derived.Test.YtdcnbeiadgedpaaKAvxApb
namespace Go.Proofs.YtdcnbeiadgedpaaAK.KAvx.KAvxAp
open Go.Proofs Go.Proofs.YtdcnbeiadgedpaaAK Go.Proofs.YtdcnbeiadgedpaaAK.KAvx
set_option maxRecDepth 100000
theorem r16 : all1 one 16 2 = true := by kernel_rfl
theorem r18 : all1 one 18 2 = true := by kernel_rfl
theorem r20 : all1 one 20 2 = true := by kernel_rfl
theorem r22 : all1 one 22 2 = true := by kernel_rfl
theorem r24 : all1 one 24 2 = true := by kernel_rfl
theorem r26 : all1 one 26 2 = true := by kernel_rfl
theorem r28 : all1 one 28 2 = true := by kernel_rfl
theorem r30 : all1 one 30 2 = true := by kernel_rfl
end Go.Proofs.YtdcnbeiadgedpaaAK.KAvx.KAvxAp
