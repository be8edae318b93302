/- Function 13, run for some of its cases. Written by a program of this claim's (genruns.py). -/
import Derived.Test.YtdcnbeiadgedpaaKSseOfb
namespace Go.Proofs.YtdcnbeiadgedpaaAK.KSse.KSseOf
open Go.Proofs Go.Proofs.YtdcnbeiadgedpaaAK Go.Proofs.YtdcnbeiadgedpaaAK.KSse
set_option maxRecDepth 100000
theorem r184 : all1 (fun k => good (call 13 [.int .i64 (.ofNat k)] .e 0)) 184 2 = true := by kernel_rfl
theorem r186 : all1 (fun k => good (call 13 [.int .i64 (.ofNat k)] .e 0)) 186 2 = true := by kernel_rfl
theorem r188 : all1 (fun k => good (call 13 [.int .i64 (.ofNat k)] .e 0)) 188 2 = true := by kernel_rfl
theorem r190 : all1 (fun k => good (call 13 [.int .i64 (.ofNat k)] .e 0)) 190 2 = true := by kernel_rfl
theorem r192 : all1 (fun k => good (call 13 [.int .i64 (.ofNat k)] .e 0)) 192 2 = true := by kernel_rfl
theorem r194 : all1 (fun k => good (call 13 [.int .i64 (.ofNat k)] .e 0)) 194 2 = true := by kernel_rfl
end Go.Proofs.YtdcnbeiadgedpaaAK.KSse.KSseOf
