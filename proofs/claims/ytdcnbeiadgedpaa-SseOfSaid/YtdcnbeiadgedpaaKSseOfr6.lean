/- Function 13, run for some of its cases. Written by a program of this claim's (genruns.py). -/
import Derived.Test.YtdcnbeiadgedpaaKSseOfb
namespace Go.Proofs.YtdcnbeiadgedpaaAK.KSse.KSseOf
open Go.Proofs Go.Proofs.YtdcnbeiadgedpaaAK Go.Proofs.YtdcnbeiadgedpaaAK.KSse
set_option maxRecDepth 100000
theorem r208 : all1 (fun k => good (call 13 [.int .i64 (.ofNat k)] .e 0)) 208 2 = true := by kernel_rfl
theorem r210 : all1 (fun k => good (call 13 [.int .i64 (.ofNat k)] .e 0)) 210 2 = true := by kernel_rfl
theorem r212 : all1 (fun k => good (call 13 [.int .i64 (.ofNat k)] .e 0)) 212 2 = true := by kernel_rfl
theorem r214 : all1 (fun k => good (call 13 [.int .i64 (.ofNat k)] .e 0)) 214 2 = true := by kernel_rfl
theorem r216 : all1 (fun k => good (call 13 [.int .i64 (.ofNat k)] .e 0)) 216 2 = true := by kernel_rfl
theorem r218 : all1 (fun k => good (call 13 [.int .i64 (.ofNat k)] .e 0)) 218 2 = true := by kernel_rfl
end Go.Proofs.YtdcnbeiadgedpaaAK.KSse.KSseOf
