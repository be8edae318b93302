/- Function 8, run for some of its cases. Written by a program of this claim's (genruns.py). -/
import Derived.Test.YtdcnbeiadgedpaaKUnaOfb
namespace Go.Proofs.YtdcnbeiadgedpaaAK.KUna.KUnaOf
open Go.Proofs Go.Proofs.YtdcnbeiadgedpaaAK Go.Proofs.YtdcnbeiadgedpaaAK.KUna
set_option maxRecDepth 100000
theorem r24 : all1 (fun k => good (call 8 [.int .i64 (.ofNat k)] .e 0)) 24 1 = true := by kernel_rfl
theorem r25 : all1 (fun k => good (call 8 [.int .i64 (.ofNat k)] .e 0)) 25 1 = true := by kernel_rfl
theorem r26 : all1 (fun k => good (call 8 [.int .i64 (.ofNat k)] .e 0)) 26 1 = true := by kernel_rfl
theorem r27 : all1 (fun k => good (call 8 [.int .i64 (.ofNat k)] .e 0)) 27 1 = true := by kernel_rfl
theorem r28 : all1 (fun k => good (call 8 [.int .i64 (.ofNat k)] .e 0)) 28 1 = true := by kernel_rfl
theorem r29 : all1 (fun k => good (call 8 [.int .i64 (.ofNat k)] .e 0)) 29 1 = true := by kernel_rfl
theorem r30 : all1 (fun k => good (call 8 [.int .i64 (.ofNat k)] .e 0)) 30 1 = true := by kernel_rfl
theorem r31 : all1 (fun k => good (call 8 [.int .i64 (.ofNat k)] .e 0)) 31 1 = true := by kernel_rfl
end Go.Proofs.YtdcnbeiadgedpaaAK.KUna.KUnaOf
