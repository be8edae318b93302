/- Function 13, run for some of its cases. Written by a program of this claim's (genruns.py). -/
import Derived.Test.YtdcnbeiadgedpaaKSseOfb
namespace Go.Proofs.YtdcnbeiadgedpaaAK.KSse.KSseOf
open Go.Proofs Go.Proofs.YtdcnbeiadgedpaaAK Go.Proofs.YtdcnbeiadgedpaaAK.KSse
set_option maxRecDepth 100000
theorem r172 : all1 (fun k => good (call 13 [.int .i64 (.ofNat k)] .e 0)) 172 2 = true := by kernel_rfl
theorem r174 : all1 (fun k => good (call 13 [.int .i64 (.ofNat k)] .e 0)) 174 2 = true := by kernel_rfl
theorem r176 : all1 (fun k => good (call 13 [.int .i64 (.ofNat k)] .e 0)) 176 2 = true := by kernel_rfl
theorem r178 : all1 (fun k => good (call 13 [.int .i64 (.ofNat k)] .e 0)) 178 2 = true := by kernel_rfl
theorem r180 : all1 (fun k => good (call 13 [.int .i64 (.ofNat k)] .e 0)) 180 2 = true := by kernel_rfl
theorem r182 : all1 (fun k => good (call 13 [.int .i64 (.ofNat k)] .e 0)) 182 2 = true := by kernel_rfl
end Go.Proofs.YtdcnbeiadgedpaaAK.KSse.KSseOf
