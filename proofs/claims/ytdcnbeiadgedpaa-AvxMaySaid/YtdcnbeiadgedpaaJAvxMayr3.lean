/- Function 17, run for some of its cases. Written by a program of this claim's (genruns.py). -/
import Derived.Test.YtdcnbeiadgedpaaJAvxMayb
namespace Go.Proofs.YtdcnbeiadgedpaaAJ.JAvx.JAvxMay
open Go.Proofs Go.Proofs.YtdcnbeiadgedpaaAJ Go.Proofs.YtdcnbeiadgedpaaAJ.JAvx
set_option maxRecDepth 100000
theorem r96 : all1 (fun k => good (call 17 [.num (.pk 122 k)] .e 0)) 96 4 = true := by kernel_rfl
theorem r100 : all1 (fun k => good (call 17 [.num (.pk 122 k)] .e 0)) 100 4 = true := by kernel_rfl
theorem r104 : all1 (fun k => good (call 17 [.num (.pk 122 k)] .e 0)) 104 4 = true := by kernel_rfl
theorem r108 : all1 (fun k => good (call 17 [.num (.pk 122 k)] .e 0)) 108 4 = true := by kernel_rfl
theorem r112 : all1 (fun k => good (call 17 [.num (.pk 122 k)] .e 0)) 112 4 = true := by kernel_rfl
theorem r116 : all1 (fun k => good (call 17 [.num (.pk 122 k)] .e 0)) 116 4 = true := by kernel_rfl
theorem r120 : all1 (fun k => good (call 17 [.num (.pk 122 k)] .e 0)) 120 2 = true := by kernel_rfl
end Go.Proofs.YtdcnbeiadgedpaaAJ.JAvx.JAvxMay
