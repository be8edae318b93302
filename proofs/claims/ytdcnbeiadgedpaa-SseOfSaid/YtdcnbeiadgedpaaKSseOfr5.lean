/- Function 13, run for some of its cases. Written by a program of this claim's (genruns.py). -/
import Derived.Test.YtdcnbeiadgedpaaKSseOfb
namespace Go.Proofs.YtdcnbeiadgedpaaAK.KSse.KSseOf
open Go.Proofs Go.Proofs.YtdcnbeiadgedpaaAK Go.Proofs.YtdcnbeiadgedpaaAK.KSse
set_option maxRecDepth 100000
theorem r196 : all1 (fun k => good (call 13 [.int .i64 (.ofNat k)] .e 0)) 196 2 = true := by kernel_rfl
theorem r198 : all1 (fun k => good (call 13 [.int .i64 (.ofNat k)] .e 0)) 198 2 = true := by kernel_rfl
theorem r200 : all1 (fun k => good (call 13 [.int .i64 (.ofNat k)] .e 0)) 200 2 = true := by kernel_rfl
theorem r202 : all1 (fun k => good (call 13 [.int .i64 (.ofNat k)] .e 0)) 202 2 = true := by kernel_rfl
theorem r204 : all1 (fun k => good (call 13 [.int .i64 (.ofNat k)] .e 0)) 204 2 = true := by kernel_rfl
theorem r206 : all1 (fun k => good (call 13 [.int .i64 (.ofNat k)] .e 0)) 206 2 = true := by kernel_rfl
end Go.Proofs.YtdcnbeiadgedpaaAK.KSse.KSseOf
