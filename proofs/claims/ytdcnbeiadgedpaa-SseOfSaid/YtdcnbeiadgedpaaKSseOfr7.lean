/- Function 13, run for some of its cases. Written by a program of this claim's (genruns.py). -/
import Derived.Test.YtdcnbeiadgedpaaKSseOfb
namespace Go.Proofs.YtdcnbeiadgedpaaAK.KSse.KSseOf
open Go.Proofs Go.Proofs.YtdcnbeiadgedpaaAK Go.Proofs.YtdcnbeiadgedpaaAK.KSse
set_option maxRecDepth 100000
theorem r220 : all1 (fun k => good (call 13 [.int .i64 (.ofNat k)] .e 0)) 220 2 = true := by kernel_rfl
theorem r222 : all1 (fun k => good (call 13 [.int .i64 (.ofNat k)] .e 0)) 222 2 = true := by kernel_rfl
theorem r224 : all1 (fun k => good (call 13 [.int .i64 (.ofNat k)] .e 0)) 224 2 = true := by kernel_rfl
theorem r226 : all1 (fun k => good (call 13 [.int .i64 (.ofNat k)] .e 0)) 226 2 = true := by kernel_rfl
theorem r228 : all1 (fun k => good (call 13 [.int .i64 (.ofNat k)] .e 0)) 228 2 = true := by kernel_rfl
theorem r230 : all1 (fun k => good (call 13 [.int .i64 (.ofNat k)] .e 0)) 230 2 = true := by kernel_rfl
end Go.Proofs.YtdcnbeiadgedpaaAK.KSse.KSseOf
