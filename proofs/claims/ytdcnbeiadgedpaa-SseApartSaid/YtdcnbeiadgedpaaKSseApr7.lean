/- Function 15, run for some of its cases. Written by a program of this claim's (genapart.py). -/
import Derived.Test.YtdcnbeiadgedpaaKSseApb
namespace Go.Proofs.YtdcnbeiadgedpaaAK.KSse.KSseAp
open Go.Proofs Go.Proofs.YtdcnbeiadgedpaaAK Go.Proofs.YtdcnbeiadgedpaaAK.KSse
set_option maxRecDepth 100000
theorem r140 : all1 one 140 2 = true := by kernel_rfl
theorem r142 : all1 one 142 2 = true := by kernel_rfl
theorem r144 : all1 one 144 2 = true := by kernel_rfl
theorem r146 : all1 one 146 2 = true := by kernel_rfl
theorem r148 : all1 one 148 2 = true := by kernel_rfl
theorem r150 : all1 one 150 1 = true := by kernel_rfl
end Go.Proofs.YtdcnbeiadgedpaaAK.KSse.KSseAp
