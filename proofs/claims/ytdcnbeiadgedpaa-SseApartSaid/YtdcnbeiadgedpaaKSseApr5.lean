/- Function 15, run for some of its cases. Written by a program of this claim's (genapart.py). -/
import Derived.Test.YtdcnbeiadgedpaaKSseApb
namespace Go.Proofs.YtdcnbeiadgedpaaAK.KSse.KSseAp
open Go.Proofs Go.Proofs.YtdcnbeiadgedpaaAK Go.Proofs.YtdcnbeiadgedpaaAK.KSse
set_option maxRecDepth 100000
theorem r100 : all1 one 100 2 = true := by kernel_rfl
theorem r102 : all1 one 102 2 = true := by kernel_rfl
theorem r104 : all1 one 104 2 = true := by kernel_rfl
theorem r106 : all1 one 106 2 = true := by kernel_rfl
theorem r108 : all1 one 108 2 = true := by kernel_rfl
theorem r110 : all1 one 110 2 = true := by kernel_rfl
theorem r112 : all1 one 112 2 = true := by kernel_rfl
theorem r114 : all1 one 114 2 = true := by kernel_rfl
theorem r116 : all1 one 116 2 = true := by kernel_rfl
theorem r118 : all1 one 118 2 = true := by kernel_rfl
end Go.Proofs.YtdcnbeiadgedpaaAK.KSse.KSseAp
