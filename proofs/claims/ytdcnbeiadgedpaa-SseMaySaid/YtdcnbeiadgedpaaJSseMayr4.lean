/- Function 19, run for some of its cases. Written by a program of this claim's (genruns.py). -/
import Derived.Test.YtdcnbeiadgedpaaJSseMayb
namespace Go.Proofs.YtdcnbeiadgedpaaAJ.JSse.JSseMay
open Go.Proofs Go.Proofs.YtdcnbeiadgedpaaAJ Go.Proofs.YtdcnbeiadgedpaaAJ.JSse
set_option maxRecDepth 100000
theorem r128 : all1 (fun k => good (call 19 [.num (.pk 151 k)] .e 0)) 128 4 = true := by kernel_rfl
theorem r132 : all1 (fun k => good (call 19 [.num (.pk 151 k)] .e 0)) 132 4 = true := by kernel_rfl
theorem r136 : all1 (fun k => good (call 19 [.num (.pk 151 k)] .e 0)) 136 4 = true := by kernel_rfl
theorem r140 : all1 (fun k => good (call 19 [.num (.pk 151 k)] .e 0)) 140 4 = true := by kernel_rfl
theorem r144 : all1 (fun k => good (call 19 [.num (.pk 151 k)] .e 0)) 144 4 = true := by kernel_rfl
theorem r148 : all1 (fun k => good (call 19 [.num (.pk 151 k)] .e 0)) 148 3 = true := by kernel_rfl
end Go.Proofs.YtdcnbeiadgedpaaAJ.JSse.JSseMay
