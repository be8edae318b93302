/- Function 10, run for some of its cases. Written by a program of this claim's (genapart.py). -/
import Derived.Test.YtdcnbeiadgedpaaKUnaApb
namespace Go.Proofs.YtdcnbeiadgedpaaAK.KUna.KUnaAp
open Go.Proofs Go.Proofs.YtdcnbeiadgedpaaAK Go.Proofs.YtdcnbeiadgedpaaAK.KUna
set_option maxRecDepth 100000
theorem r88 : all1 one 88 2 = true := by kernel_rfl
theorem r90 : all1 one 90 2 = true := by kernel_rfl
theorem r92 : all1 one 92 2 = true := by kernel_rfl
theorem r94 : all1 one 94 2 = true := by kernel_rfl
theorem r96 : all1 one 96 2 = true := by kernel_rfl
theorem r98 : all1 one 98 2 = true := by kernel_rfl
theorem r100 : all1 one 100 2 = true := by kernel_rfl
theorem r102 : all1 one 102 2 = true := by kernel_rfl
theorem r104 : all1 one 104 2 = true := by kernel_rfl
theorem r106 : all1 one 106 2 = true := by kernel_rfl
theorem r108 : all1 one 108 2 = true := by kernel_rfl
end Go.Proofs.YtdcnbeiadgedpaaAK.KUna.KUnaAp
