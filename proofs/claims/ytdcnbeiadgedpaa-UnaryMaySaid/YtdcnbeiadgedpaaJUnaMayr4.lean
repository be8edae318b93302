/- Function 18, run for some of its cases. Written by a program of this claim's (genruns.py). -/
import Derived.Test.YtdcnbeiadgedpaaJUnaMayb
namespace Go.Proofs.YtdcnbeiadgedpaaAJ.JUna.JUnaMay
open Go.Proofs Go.Proofs.YtdcnbeiadgedpaaAJ Go.Proofs.YtdcnbeiadgedpaaAJ.JUna
set_option maxRecDepth 100000
theorem r128 : all1 (fun k => good (call 18 [.num (.pk 174 k)] .e 0)) 128 4 = true := by kernel_rfl
theorem r132 : all1 (fun k => good (call 18 [.num (.pk 174 k)] .e 0)) 132 4 = true := by kernel_rfl
theorem r136 : all1 (fun k => good (call 18 [.num (.pk 174 k)] .e 0)) 136 4 = true := by kernel_rfl
theorem r140 : all1 (fun k => good (call 18 [.num (.pk 174 k)] .e 0)) 140 4 = true := by kernel_rfl
theorem r144 : all1 (fun k => good (call 18 [.num (.pk 174 k)] .e 0)) 144 4 = true := by kernel_rfl
theorem r148 : all1 (fun k => good (call 18 [.num (.pk 174 k)] .e 0)) 148 4 = true := by kernel_rfl
theorem r152 : all1 (fun k => good (call 18 [.num (.pk 174 k)] .e 0)) 152 4 = true := by kernel_rfl
theorem r156 : all1 (fun k => good (call 18 [.num (.pk 174 k)] .e 0)) 156 4 = true := by kernel_rfl
end Go.Proofs.YtdcnbeiadgedpaaAJ.JUna.JUnaMay
