/- Function 13, run for some of its cases. Written by a program of this claim's (genruns.py). -/
import Derived.Test.YtdcnbeiadgedpaaKSseOfb
namespace Go.Proofs.YtdcnbeiadgedpaaAK.KSse.KSseOf
open Go.Proofs Go.Proofs.YtdcnbeiadgedpaaAK Go.Proofs.YtdcnbeiadgedpaaAK.KSse
set_option maxRecDepth 100000
theorem r256 : all1 (fun k => good (call 13 [.int .i64 (.ofNat k)] .e 0)) 256 2 = true := by kernel_rfl
theorem r258 : all1 (fun k => good (call 13 [.int .i64 (.ofNat k)] .e 0)) 258 2 = true := by kernel_rfl
theorem r260 : all1 (fun k => good (call 13 [.int .i64 (.ofNat k)] .e 0)) 260 2 = true := by kernel_rfl
theorem r262 : all1 (fun k => good (call 13 [.int .i64 (.ofNat k)] .e 0)) 262 1 = true := by kernel_rfl
end Go.Proofs.YtdcnbeiadgedpaaAK.KSse.KSseOf
