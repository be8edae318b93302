/- Function 19, run for some of its cases. Written by a program of this claim's (genruns.py). -/
import Derived.Test.YtdcnbeiadgedpaaJSseMayb
namespace Go.Proofs.YtdcnbeiadgedpaaAJ.JSse.JSseMay
open Go.Proofs Go.Proofs.YtdcnbeiadgedpaaAJ Go.Proofs.YtdcnbeiadgedpaaAJ.JSse
set_option maxRecDepth 100000
theorem r96 : all1 (fun k => good (call 19 [.num (.pk 151 k)] .e 0)) 96 4 = true := by kernel_rfl
theorem r100 : all1 (fun k => good (call 19 [.num (.pk 151 k)] .e 0)) 100 4 = true := by kernel_rfl
theorem r104 : all1 (fun k => good (call 19 [.num (.pk 151 k)] .e 0)) 104 4 = true := by kernel_rfl
theorem r108 : all1 (fun k => good (call 19 [.num (.pk 151 k)] .e 0)) 108 4 = true := by kernel_rfl
theorem r112 : all1 (fun k => good (call 19 [.num (.pk 151 k)] .e 0)) 112 4 = true := by kernel_rfl
theorem r116 : all1 (fun k => good (call 19 [.num (.pk 151 k)] .e 0)) 116 4 = true := by kernel_rfl
theorem r120 : all1 (fun k => good (call 19 [.num (.pk 151 k)] .e 0)) 120 4 = true := by kernel_rfl
theorem r124 : all1 (fun k => good (call 19 [.num (.pk 151 k)] .e 0)) 124 4 = true := by kernel_rfl
end Go.Proofs.YtdcnbeiadgedpaaAJ.JSse.JSseMay
