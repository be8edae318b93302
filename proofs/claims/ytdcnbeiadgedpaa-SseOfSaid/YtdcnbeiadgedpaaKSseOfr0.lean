/- Function 13, run for some of its cases. Written by a program of this claim's (genruns.py). -/
import Derived.Test.YtdcnbeiadgedpaaKSseOfb
namespace Go.Proofs.YtdcnbeiadgedpaaAK.KSse.KSseOf
open Go.Proofs Go.Proofs.YtdcnbeiadgedpaaAK Go.Proofs.YtdcnbeiadgedpaaAK.KSse
set_option maxRecDepth 100000
theorem r136 : all1 (fun k => good (call 13 [.int .i64 (.ofNat k)] .e 0)) 136 2 = true := by kernel_rfl
theorem r138 : all1 (fun k => good (call 13 [.int .i64 (.ofNat k)] .e 0)) 138 2 = true := by kernel_rfl
theorem r140 : all1 (fun k => good (call 13 [.int .i64 (.ofNat k)] .e 0)) 140 2 = true := by kernel_rfl
theorem r142 : all1 (fun k => good (call 13 [.int .i64 (.ofNat k)] .e 0)) 142 2 = true := by kernel_rfl
theorem r144 : all1 (fun k => good (call 13 [.int .i64 (.ofNat k)] .e 0)) 144 2 = true := by kernel_rfl
theorem r146 : all1 (fun k => good (call 13 [.int .i64 (.ofNat k)] .e 0)) 146 2 = true := by kernel_rfl
end Go.Proofs.YtdcnbeiadgedpaaAK.KSse.KSseOf
