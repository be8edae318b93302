/- Function 15, run for some of its cases. Written by a program of this claim's (genapart.py). -/
import Derived.Test.YtdcnbeiadgedpaaKSseApb
namespace Go.Proofs.YtdcnbeiadgedpaaAK.KSse.KSseAp
open Go.Proofs Go.Proofs.YtdcnbeiadgedpaaAK Go.Proofs.YtdcnbeiadgedpaaAK.KSse
set_option maxRecDepth 100000
theorem r40 : all1 one 40 2 = true := by kernel_rfl
theorem r42 : all1 one 42 2 = true := by kernel_rfl
theorem r44 : all1 one 44 2 = true := by kernel_rfl
theorem r46 : all1 one 46 2 = true := by kernel_rfl
theorem r48 : all1 one 48 2 = true := by kernel_rfl
theorem r50 : all1 one 50 2 = true := by kernel_rfl
theorem r52 : all1 one 52 2 = true := by kernel_rfl
theorem r54 : all1 one 54 2 = true := by kernel_rfl
theorem r56 : all1 one 56 2 = true := by kernel_rfl
theorem r58 : all1 one 58 2 = true := by kernel_rfl
end Go.Proofs.YtdcnbeiadgedpaaAK.KSse.KSseAp
