/- Function 18, run for some of its cases. Written by a program of this claim's (genruns.py). -/
import Derived.Test.YtdcnbeiadgedpaaJUnaMayb
namespace Go.Proofs.YtdcnbeiadgedpaaAJ.JUna.JUnaMay
open Go.Proofs Go.Proofs.YtdcnbeiadgedpaaAJ Go.Proofs.YtdcnbeiadgedpaaAJ.JUna
set_option maxRecDepth 100000
theorem r96 : all1 (fun k => good (call 18 [.num (.pk 174 k)] .e 0)) 96 4 = true := by kernel_rfl
theorem r100 : all1 (fun k => good (call 18 [.num (.pk 174 k)] .e 0)) 100 4 = true := by kernel_rfl
theorem r104 : all1 (fun k => good (call 18 [.num (.pk 174 k)] .e 0)) 104 4 = true := by kernel_rfl
theorem r108 : all1 (fun k => good (call 18 [.num (.pk 174 k)] .e 0)) 108 4 = true := by kernel_rfl
theorem r112 : all1 (fun k => good (call 18 [.num (.pk 174 k)] .e 0)) 112 4 = true := by kernel_rfl
theorem r116 : all1 (fun k => good (call 18 [.num (.pk 174 k)] .e 0)) 116 4 = true := by kernel_rfl
theorem r120 : all1 (fun k => good (call 18 [.num (.pk 174 k)] .e 0)) 120 4 = true := by kernel_rfl
theorem r124 : all1 (fun k => good (call 18 [.num (.pk 174 k)] .e 0)) 124 4 = true := by kernel_rfl
end Go.Proofs.YtdcnbeiadgedpaaAJ.JUna.JUnaMay
