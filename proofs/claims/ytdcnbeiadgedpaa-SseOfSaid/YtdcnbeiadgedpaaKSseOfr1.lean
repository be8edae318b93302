/- Function 13, run for some of its cases. Written by a program of this claim's (genruns.py). -/
import Derived.Test.YtdcnbeiadgedpaaKSseOfb
namespace Go.Proofs.YtdcnbeiadgedpaaAK.KSse.KSseOf
open Go.Proofs Go.Proofs.YtdcnbeiadgedpaaAK Go.Proofs.YtdcnbeiadgedpaaAK.KSse
set_option maxRecDepth 100000
theorem r148 : all1 (fun k => good (call 13 [.int .i64 (.ofNat k)] .e 0)) 148 2 = true := by kernel_rfl
theorem r150 : all1 (fun k => good (call 13 [.int .i64 (.ofNat k)] .e 0)) 150 2 = true := by kernel_rfl
theorem r152 : all1 (fun k => good (call 13 [.int .i64 (.ofNat k)] .e 0)) 152 2 = true := by kernel_rfl
theorem r154 : all1 (fun k => good (call 13 [.int .i64 (.ofNat k)] .e 0)) 154 2 = true := by kernel_rfl
theorem r156 : all1 (fun k => good (call 13 [.int .i64 (.ofNat k)] .e 0)) 156 2 = true := by kernel_rfl
theorem r158 : all1 (fun k => good (call 13 [.int .i64 (.ofNat k)] .e 0)) 158 2 = true := by kernel_rfl
end Go.Proofs.YtdcnbeiadgedpaaAK.KSse.KSseOf
