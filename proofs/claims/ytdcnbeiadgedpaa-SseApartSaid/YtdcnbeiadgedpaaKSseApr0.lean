/- Function 15, run for some of its cases. Written by a program of this claim's (genapart.py). -/
import Derived.Test.YtdcnbeiadgedpaaKSseApb
namespace Go.Proofs.YtdcnbeiadgedpaaAK.KSse.KSseAp
open Go.Proofs Go.Proofs.YtdcnbeiadgedpaaAK Go.Proofs.YtdcnbeiadgedpaaAK.KSse
set_option maxRecDepth 100000
theorem r0 : all1 one 0 2 = true := by kernel_rfl
theorem r2 : all1 one 2 2 = true := by kernel_rfl
theorem r4 : all1 one 4 2 = true := by kernel_rfl
theorem r6 : all1 one 6 2 = true := by kernel_rfl
theorem r8 : all1 one 8 2 = true := by kernel_rfl
theorem r10 : all1 one 10 2 = true := by kernel_rfl
theorem r12 : all1 one 12 2 = true := by kernel_rfl
theorem r14 : all1 one 14 2 = true := by kernel_rfl
theorem r16 : all1 one 16 2 = true := by kernel_rfl
theorem r18 : all1 one 18 2 = true := by kernel_rfl
end Go.Proofs.YtdcnbeiadgedpaaAK.KSse.KSseAp
