/- Function 13, run for some of its cases. Written by a program of this claim's (genruns.py). -/
import Derived.Test.YtdcnbeiadgedpaaKSseOfb
namespace Go.Proofs.YtdcnbeiadgedpaaAK.KSse.KSseOf
open Go.Proofs Go.Proofs.YtdcnbeiadgedpaaAK Go.Proofs.YtdcnbeiadgedpaaAK.KSse
set_option maxRecDepth 100000
theorem r244 : all1 (fun k => good (call 13 [.int .i64 (.ofNat k)] .e 0)) 244 2 = true := by kernel_rfl
theorem r246 : all1 (fun k => good (call 13 [.int .i64 (.ofNat k)] .e 0)) 246 2 = true := by kernel_rfl
theorem r248 : all1 (fun k => good (call 13 [.int .i64 (.ofNat k)] .e 0)) 248 2 = true := by kernel_rfl
theorem r250 : all1 (fun k => good (call 13 [.int .i64 (.ofNat k)] .e 0)) 250 2 = true := by kernel_rfl
theorem r252 : all1 (fun k => good (call 13 [.int .i64 (.ofNat k)] .e 0)) 252 2 = true := by kernel_rfl
theorem r254 : all1 (fun k => good (call 13 [.int .i64 (.ofNat k)] .e 0)) 254 2 = true := by kernel_rfl
end Go.Proofs.YtdcnbeiadgedpaaAK.KSse.KSseOf
