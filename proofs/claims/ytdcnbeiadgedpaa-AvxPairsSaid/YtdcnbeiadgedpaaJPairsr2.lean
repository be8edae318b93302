/- Function 7, run for some of its cases. Written by a program of this claim's (genruns.py). -/
import Derived.Test.YtdcnbeiadgedpaaJPairsb
namespace Go.Proofs.YtdcnbeiadgedpaaAJ.JAvx.JPairs
open Go.Proofs Go.Proofs.YtdcnbeiadgedpaaAJ Go.Proofs.YtdcnbeiadgedpaaAJ.JAvx
set_option maxRecDepth 100000
theorem r64 : all1 (fun k => good (call 7 [.num (.pk 121 k)] .e 0)) 64 8 = true := by kernel_rfl
theorem r72 : all1 (fun k => good (call 7 [.num (.pk 121 k)] .e 0)) 72 8 = true := by kernel_rfl
theorem r80 : all1 (fun k => good (call 7 [.num (.pk 121 k)] .e 0)) 80 8 = true := by kernel_rfl
theorem r88 : all1 (fun k => good (call 7 [.num (.pk 121 k)] .e 0)) 88 8 = true := by kernel_rfl
end Go.Proofs.YtdcnbeiadgedpaaAJ.JAvx.JPairs
