/- Function 13, run for some of its cases. Written by a program of this claim's (genruns.py). -/
import Derived.Test.YtdcnbeiadgedpaaKSseOfb
namespace Go.Proofs.YtdcnbeiadgedpaaAK.KSse.KSseOf
open Go.Proofs Go.Proofs.YtdcnbeiadgedpaaAK Go.Proofs.YtdcnbeiadgedpaaAK.KSse
set_option maxRecDepth 100000
theorem r160 : all1 (fun k => good (call 13 [.int .i64 (.ofNat k)] .e 0)) 160 2 = true := by kernel_rfl
theorem r162 : all1 (fun k => good (call 13 [.int .i64 (.ofNat k)] .e 0)) 162 2 = true := by kernel_rfl
theorem r164 : all1 (fun k => good (call 13 [.int .i64 (.ofNat k)] .e 0)) 164 2 = true := by kernel_rfl
theorem r166 : all1 (fun k => good (call 13 [.int .i64 (.ofNat k)] .e 0)) 166 2 = true := by kernel_rfl
theorem r168 : all1 (fun k => good (call 13 [.int .i64 (.ofNat k)] .e 0)) 168 2 = true := by kernel_rfl
theorem r170 : all1 (fun k => good (call 13 [.int .i64 (.ofNat k)] .e 0)) 170 2 = true := by kernel_rfl
end Go.Proofs.YtdcnbeiadgedpaaAK.KSse.KSseOf
