/- Function 7, run for some of its cases. Written by a program of this claim's (genruns.py). -/
import Derived.Test.YtdcnbeiadgedpaaJPairsb
namespace Go.Proofs.YtdcnbeiadgedpaaAJ.JAvx.JPairs
open Go.Proofs Go.Proofs.YtdcnbeiadgedpaaAJ Go.Proofs.YtdcnbeiadgedpaaAJ.JAvx
set_option maxRecDepth 100000
theorem r32 : all1 (fun k => good (call 7 [.num (.pk 121 k)] .e 0)) 32 8 = true := by kernel_rfl
theorem r40 : all1 (fun k => good (call 7 [.num (.pk 121 k)] .e 0)) 40 8 = true := by kernel_rfl
theorem r48 : all1 (fun k => good (call 7 [.num (.pk 121 k)] .e 0)) 48 8 = true := by kernel_rfl
theorem r56 : all1 (fun k => good (call 7 [.num (.pk 121 k)] .e 0)) 56 8 = true := by kernel_rfl
end Go.Proofs.YtdcnbeiadgedpaaAJ.JAvx.JPairs
