/- Function 13, run for some of its cases. Written by a program of this claim's (genruns.py). -/
import Derived.Test.YtdcnbeiadgedpaaKSseOfb
namespace Go.Proofs.YtdcnbeiadgedpaaAK.KSse.KSseOf
open Go.Proofs Go.Proofs.YtdcnbeiadgedpaaAK Go.Proofs.YtdcnbeiadgedpaaAK.KSse
set_option maxRecDepth 100000
theorem r232 : all1 (fun k => good (call 13 [.int .i64 (.ofNat k)] .e 0)) 232 2 = true := by kernel_rfl
theorem r234 : all1 (fun k => good (call 13 [.int .i64 (.ofNat k)] .e 0)) 234 2 = true := by kernel_rfl
theorem r236 : all1 (fun k => good (call 13 [.int .i64 (.ofNat k)] .e 0)) 236 2 = true := by kernel_rfl
theorem r238 : all1 (fun k => good (call 13 [.int .i64 (.ofNat k)] .e 0)) 238 2 = true := by kernel_rfl
theorem r240 : all1 (fun k => good (call 13 [.int .i64 (.ofNat k)] .e 0)) 240 2 = true := by kernel_rfl
theorem r242 : all1 (fun k => good (call 13 [.int .i64 (.ofNat k)] .e 0)) 242 2 = true := by kernel_rfl
end Go.Proofs.YtdcnbeiadgedpaaAK.KSse.KSseOf
