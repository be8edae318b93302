/- Function 10, run for some of its cases. Written by a program of this claim's (genapart.py). -/
import Derived.Test.YtdcnbeiadgedpaaKUnaApb
namespace Go.Proofs.YtdcnbeiadgedpaaAK.KUna.KUnaAp
open Go.Proofs Go.Proofs.YtdcnbeiadgedpaaAK Go.Proofs.YtdcnbeiadgedpaaAK.KUna
set_option maxRecDepth 100000
theorem r154 : all1 one 154 2 = true := by kernel_rfl
theorem r156 : all1 one 156 2 = true := by kernel_rfl
theorem r158 : all1 one 158 2 = true := by kernel_rfl
theorem r160 : all1 one 160 2 = true := by kernel_rfl
theorem r162 : all1 one 162 2 = true := by kernel_rfl
theorem r164 : all1 one 164 2 = true := by kernel_rfl
theorem r166 : all1 one 166 2 = true := by kernel_rfl
theorem r168 : all1 one 168 2 = true := by kernel_rfl
theorem r170 : all1 one 170 2 = true := by kernel_rfl
theorem r172 : all1 one 172 2 = true := by kernel_rfl
end Go.Proofs.YtdcnbeiadgedpaaAK.KUna.KUnaAp
