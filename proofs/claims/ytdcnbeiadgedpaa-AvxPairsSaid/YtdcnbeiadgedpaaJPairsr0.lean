/- Function 7, run for some of its cases. Written by a program of this claim's (genruns.py). -/
import Derived.Test.YtdcnbeiadgedpaaJPairsb
namespace Go.Proofs.YtdcnbeiadgedpaaAJ.JAvx.JPairs
open Go.Proofs Go.Proofs.YtdcnbeiadgedpaaAJ Go.Proofs.YtdcnbeiadgedpaaAJ.JAvx
set_option maxRecDepth 100000
theorem r0 : all1 (fun k => good (call 7 [.num (.pk 121 k)] .e 0)) 0 8 = true := by kernel_rfl
theorem r8 : all1 (fun k => good (call 7 [.num (.pk 121 k)] .e 0)) 8 8 = true := by kernel_rfl
theorem r16 : all1 (fun k => good (call 7 [.num (.pk 121 k)] .e 0)) 16 8 = true := by kernel_rfl
theorem r24 : all1 (fun k => good (call 7 [.num (.pk 121 k)] .e 0)) 24 8 = true := by kernel_rfl
end Go.Proofs.YtdcnbeiadgedpaaAJ.JAvx.JPairs
