/- Function 15, run for some of its cases. Written by a program of this claim's (genapart.py). -/
import Derived.Test.YtdcnbeiadgedpaaKSseApb
namespace Go.Proofs.YtdcnbeiadgedpaaAK.KSse.KSseAp
open Go.Proofs Go.Proofs.YtdcnbeiadgedpaaAK Go.Proofs.YtdcnbeiadgedpaaAK.KSse
set_option maxRecDepth 100000
theorem r80 : all1 one 80 2 = true := by kernel_rfl
theorem r82 : all1 one 82 2 = true := by kernel_rfl
theorem r84 : all1 one 84 2 = true := by kernel_rfl
theorem r86 : all1 one 86 2 = true := by kernel_rfl
theorem r88 : all1 one 88 2 = true := by kernel_rfl
theorem r90 : all1 one 90 2 = true := by kernel_rfl
theorem r92 : all1 one 92 2 = true := by kernel_rfl
theorem r94 : all1 one 94 2 = true := by kernel_rfl
theorem r96 : all1 one 96 2 = true := by kernel_rfl
theorem r98 : all1 one 98 2 = true := by kernel_rfl
end Go.Proofs.YtdcnbeiadgedpaaAK.KSse.KSseAp
