/- Function 17, run for some of its cases. Written by a program of this claim's (genruns.py). -/
import Derived.Test.YtdcnbeiadgedpaaJAvxMayb
namespace Go.Proofs.YtdcnbeiadgedpaaAJ.JAvx.JAvxMay
open Go.Proofs Go.Proofs.YtdcnbeiadgedpaaAJ Go.Proofs.YtdcnbeiadgedpaaAJ.JAvx
set_option maxRecDepth 100000
theorem r32 : all1 (fun k => good (call 17 [.num (.pk 122 k)] .e 0)) 32 4 = true := by kernel_rfl
theorem r36 : all1 (fun k => good (call 17 [.num (.pk 122 k)] .e 0)) 36 4 = true := by kernel_rfl
theorem r40 : all1 (fun k => good (call 17 [.num (.pk 122 k)] .e 0)) 40 4 = true := by kernel_rfl
theorem r44 : all1 (fun k => good (call 17 [.num (.pk 122 k)] .e 0)) 44 4 = true := by kernel_rfl
theorem r48 : all1 (fun k => good (call 17 [.num (.pk 122 k)] .e 0)) 48 4 = true := by kernel_rfl
theorem r52 : all1 (fun k => good (call 17 [.num (.pk 122 k)] .e 0)) 52 4 = true := by kernel_rfl
theorem r56 : all1 (fun k => good (call 17 [.num (.pk 122 k)] .e 0)) 56 4 = true := by kernel_rfl
theorem r60 : all1 (fun k => good (call 17 [.num (.pk 122 k)] .e 0)) 60 4 = true := by kernel_rfl
end Go.Proofs.YtdcnbeiadgedpaaAJ.JAvx.JAvxMay
