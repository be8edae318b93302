/- Function 10, run for some of its cases. Written by a program of this claim's (genapart.py). -/
import Derived.Test.YtdcnbeiadgedpaaKUnaApb
namespace Go.Proofs.YtdcnbeiadgedpaaAK.KUna.KUnaAp
open Go.Proofs Go.Proofs.YtdcnbeiadgedpaaAK Go.Proofs.YtdcnbeiadgedpaaAK.KUna
set_option maxRecDepth 100000
theorem r22 : all1 one 22 2 = true := by kernel_rfl
theorem r24 : all1 one 24 2 = true := by kernel_rfl
theorem r26 : all1 one 26 2 = true := by kernel_rfl
theorem r28 : all1 one 28 2 = true := by kernel_rfl
theorem r30 : all1 one 30 2 = true := by kernel_rfl
theorem r32 : all1 one 32 2 = true := by kernel_rfl
theorem r34 : all1 one 34 2 = true := by kernel_rfl
theorem r36 : all1 one 36 2 = true := by kernel_rfl
theorem r38 : all1 one 38 2 = true := by kernel_rfl
theorem r40 : all1 one 40 2 = true := by kernel_rfl
theorem r42 : all1 one 42 2 = true := by kernel_rfl
end Go.Proofs.YtdcnbeiadgedpaaAK.KUna.KUnaAp
