/- Function 19, run for some of its cases. Written by a program of this claim's (genruns.py). -/
import Derived.Test.YtdcnbeiadgedpaaJSseMayb
namespace Go.Proofs.YtdcnbeiadgedpaaAJ.JSse.JSseMay
open Go.Proofs Go.Proofs.YtdcnbeiadgedpaaAJ Go.Proofs.YtdcnbeiadgedpaaAJ.JSse
set_option maxRecDepth 100000
theorem r64 : all1 (fun k => good (call 19 [.num (.pk 151 k)] .e 0)) 64 4 = true := by kernel_rfl
theorem r68 : all1 (fun k => good (call 19 [.num (.pk 151 k)] .e 0)) 68 4 = true := by kernel_rfl
theorem r72 : all1 (fun k => good (call 19 [.num (.pk 151 k)] .e 0)) 72 4 = true := by kernel_rfl
theorem r76 : all1 (fun k => good (call 19 [.num (.pk 151 k)] .e 0)) 76 4 = true := by kernel_rfl
theorem r80 : all1 (fun k => good (call 19 [.num (.pk 151 k)] .e 0)) 80 4 = true := by kernel_rfl
theorem r84 : all1 (fun k => good (call 19 [.num (.pk 151 k)] .e 0)) 84 4 = true := by kernel_rfl
theorem r88 : all1 (fun k => good (call 19 [.num (.pk 151 k)] .e 0)) 88 4 = true := by kernel_rfl
theorem r92 : all1 (fun k => good (call 19 [.num (.pk 151 k)] .e 0)) 92 4 = true := by kernel_rfl
end Go.Proofs.YtdcnbeiadgedpaaAJ.JSse.JSseMay
