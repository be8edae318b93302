/- Function 10, run for some of its cases. Written by a program of this claim's (genapart.py). -/
import Derived.Test.YtdcnbeiadgedpaaKUnaApb
namespace Go.Proofs.YtdcnbeiadgedpaaAK.KUna.KUnaAp
open Go.Proofs Go.Proofs.YtdcnbeiadgedpaaAK Go.Proofs.YtdcnbeiadgedpaaAK.KUna
set_option maxRecDepth 100000
theorem r110 : all1 one 110 2 = true := by kernel_rfl
theorem r112 : all1 one 112 2 = true := by kernel_rfl
theorem r114 : all1 one 114 2 = true := by kernel_rfl
theorem r116 : all1 one 116 2 = true := by kernel_rfl
theorem r118 : all1 one 118 2 = true := by kernel_rfl
theorem r120 : all1 one 120 2 = true := by kernel_rfl
theorem r122 : all1 one 122 2 = true := by kernel_rfl
theorem r124 : all1 one 124 2 = true := by kernel_rfl
theorem r126 : all1 one 126 2 = true := by kernel_rfl
theorem r128 : all1 one 128 2 = true := by kernel_rfl
theorem r130 : all1 one 130 2 = true := by kernel_rfl
end Go.Proofs.YtdcnbeiadgedpaaAK.KUna.KUnaAp
