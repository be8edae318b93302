/- Function 17, run for some of its cases. Written by a program of this claim's (genruns.py). -/
import Derived.Test.YtdcnbeiadgedpaaJAvxMayb
namespace Go.Proofs.YtdcnbeiadgedpaaAJ.JAvx.JAvxMay
open Go.Proofs Go.Proofs.YtdcnbeiadgedpaaAJ Go.Proofs.YtdcnbeiadgedpaaAJ.JAvx
set_option maxRecDepth 100000
theorem r0 : all1 (fun k => good (call 17 [.num (.pk 122 k)] .e 0)) 0 4 = true := by kernel_rfl
theorem r4 : all1 (fun k => good (call 17 [.num (.pk 122 k)] .e 0)) 4 4 = true := by kernel_rfl
theorem r8 : all1 (fun k => good (call 17 [.num (.pk 122 k)] .e 0)) 8 4 = true := by kernel_rfl
theorem r12 : all1 (fun k => good (call 17 [.num (.pk 122 k)] .e 0)) 12 4 = true := by kernel_rfl
theorem r16 : all1 (fun k => good (call 17 [.num (.pk 122 k)] .e 0)) 16 4 = true := by kernel_rfl
theorem r20 : all1 (fun k => good (call 17 [.num (.pk 122 k)] .e 0)) 20 4 = true := by kernel_rfl
theorem r24 : all1 (fun k => good (call 17 [.num (.pk 122 k)] .e 0)) 24 4 = true := by kernel_rfl
theorem r28 : all1 (fun k => good (call 17 [.num (.pk 122 k)] .e 0)) 28 4 = true := by kernel_rfl
end Go.Proofs.YtdcnbeiadgedpaaAJ.JAvx.JAvxMay
