/- Function 10, run for some of its cases. Written by a program of this claim's (genapart.py). -/
import Derived.Test.YtdcnbeiadgedpaaKUnaApb
namespace Go.Proofs.YtdcnbeiadgedpaaAK.KUna.KUnaAp
open Go.Proofs Go.Proofs.YtdcnbeiadgedpaaAK Go.Proofs.YtdcnbeiadgedpaaAK.KUna
set_option maxRecDepth 100000
theorem r66 : all1 one 66 2 = true := by kernel_rfl
theorem r68 : all1 one 68 2 = true := by kernel_rfl
theorem r70 : all1 one 70 2 = true := by kernel_rfl
theorem r72 : all1 one 72 2 = true := by kernel_rfl
theorem r74 : all1 one 74 2 = true := by kernel_rfl
theorem r76 : all1 one 76 2 = true := by kernel_rfl
theorem r78 : all1 one 78 2 = true := by kernel_rfl
theorem r80 : all1 one 80 2 = true := by kernel_rfl
theorem r82 : all1 one 82 2 = true := by kernel_rfl
theorem r84 : all1 one 84 2 = true := by kernel_rfl
theorem r86 : all1 one 86 2 = true := by kernel_rfl
end Go.Proofs.YtdcnbeiadgedpaaAK.KUna.KUnaAp
