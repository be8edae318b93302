/- Function 7, run for some of its cases. Written by a program of this claim's (genruns.py). -/
import Derived.Test.YtdcnbeiadgedpaaJPairsb
namespace Go.Proofs.YtdcnbeiadgedpaaAJ.JAvx.JPairs
open Go.Proofs Go.Proofs.YtdcnbeiadgedpaaAJ Go.Proofs.YtdcnbeiadgedpaaAJ.JAvx
set_option maxRecDepth 100000
theorem r96 : all1 (fun k => good (call 7 [.num (.pk 121 k)] .e 0)) 96 8 = true := by kernel_rfl
theorem r104 : all1 (fun k => good (call 7 [.num (.pk 121 k)] .e 0)) 104 8 = true := by kernel_rfl
theorem r112 : all1 (fun k => good (call 7 [.num (.pk 121 k)] .e 0)) 112 8 = true := by kernel_rfl
theorem r120 : all1 (fun k => good (call 7 [.num (.pk 121 k)] .e 0)) 120 1 = true := by kernel_rfl
end Go.Proofs.YtdcnbeiadgedpaaAJ.JAvx.JPairs
