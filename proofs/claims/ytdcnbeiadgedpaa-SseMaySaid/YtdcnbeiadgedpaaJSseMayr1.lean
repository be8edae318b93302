/- Function 19, run for some of its cases. Written by a program of this claim's (genruns.py). -/
import Derived.Test.YtdcnbeiadgedpaaJSseMayb
namespace Go.Proofs.YtdcnbeiadgedpaaAJ.JSse.JSseMay
open Go.Proofs Go.Proofs.YtdcnbeiadgedpaaAJ Go.Proofs.YtdcnbeiadgedpaaAJ.JSse
set_option maxRecDepth 100000
theorem r32 : all1 (fun k => good (call 19 [.num (.pk 151 k)] .e 0)) 32 4 = true := by kernel_rfl
theorem r36 : all1 (fun k => good (call 19 [.num (.pk 151 k)] .e 0)) 36 4 = true := by kernel_rfl
theorem r40 : all1 (fun k => good (call 19 [.num (.pk 151 k)] .e 0)) 40 4 = true := by kernel_rfl
theorem r44 : all1 (fun k => good (call 19 [.num (.pk 151 k)] .e 0)) 44 4 = true := by kernel_rfl
theorem r48 : all1 (fun k => good (call 19 [.num (.pk 151 k)] .e 0)) 48 4 = true := by kernel_rfl
theorem r52 : all1 (fun k => good (call 19 [.num (.pk 151 k)] .e 0)) 52 4 = true := by kernel_rfl
theorem r56 : all1 (fun k => good (call 19 [.num (.pk 151 k)] .e 0)) 56 4 = true := by kernel_rfl
theorem r60 : all1 (fun k => good (call 19 [.num (.pk 151 k)] .e 0)) 60 4 = true := by kernel_rfl
end Go.Proofs.YtdcnbeiadgedpaaAJ.JSse.JSseMay
