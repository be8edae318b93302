/- Function 10, run for some of its cases. Written by a program of this claim's (genapart.py). -/
import Derived.Test.YtdcnbeiadgedpaaKUnaApb
namespace Go.Proofs.YtdcnbeiadgedpaaAK.KUna.KUnaAp
open Go.Proofs Go.Proofs.YtdcnbeiadgedpaaAK Go.Proofs.YtdcnbeiadgedpaaAK.KUna
set_option maxRecDepth 100000
theorem r132 : all1 one 132 2 = true := by kernel_rfl
theorem r134 : all1 one 134 2 = true := by kernel_rfl
theorem r136 : all1 one 136 2 = true := by kernel_rfl
theorem r138 : all1 one 138 2 = true := by kernel_rfl
theorem r140 : all1 one 140 2 = true := by kernel_rfl
theorem r142 : all1 one 142 2 = true := by kernel_rfl
theorem r144 : all1 one 144 2 = true := by kernel_rfl
theorem r146 : all1 one 146 2 = true := by kernel_rfl
theorem r148 : all1 one 148 2 = true := by kernel_rfl
theorem r150 : all1 one 150 2 = true := by kernel_rfl
theorem r152 : all1 one 152 2 = true := by kernel_rfl
end Go.Proofs.YtdcnbeiadgedpaaAK.KUna.KUnaAp
