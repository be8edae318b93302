/- Function 15, run for some of its cases. Written by a program of this claim's (genapart.py). -/
import Derived.Test.YtdcnbeiadgedpaaKSseApb
namespace Go.Proofs.YtdcnbeiadgedpaaAK.KSse.KSseAp
open Go.Proofs Go.Proofs.YtdcnbeiadgedpaaAK Go.Proofs.YtdcnbeiadgedpaaAK.KSse
set_option maxRecDepth 100000
theorem r120 : all1 one 120 2 = true := by kernel_rfl
theorem r122 : all1 one 122 2 = true := by kernel_rfl
theorem r124 : all1 one 124 2 = true := by kernel_rfl
theorem r126 : all1 one 126 2 = true := by kernel_rfl
theorem r128 : all1 one 128 2 = true := by kernel_rfl
theorem r130 : all1 one 130 2 = true := by kernel_rfl
theorem r132 : all1 one 132 2 = true := by kernel_rfl
theorem r134 : all1 one 134 2 = true := by kernel_rfl
theorem r136 : all1 one 136 2 = true := by kernel_rfl
theorem r138 : all1 one 138 2 = true := by kernel_rfl
end Go.Proofs.YtdcnbeiadgedpaaAK.KSse.KSseAp
