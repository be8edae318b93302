/- Function 8, run for some of its cases. Written by a program of this claim's (genruns.py). -/
import Derived.Test.YtdcnbeiadgedpaaKUnaOfb
namespace Go.Proofs.YtdcnbeiadgedpaaAK.KUna.KUnaOf
open Go.Proofs Go.Proofs.YtdcnbeiadgedpaaAK Go.Proofs.YtdcnbeiadgedpaaAK.KUna
set_option maxRecDepth 100000
theorem r32 : all1 (fun k => good (call 8 [.int .i64 (.ofNat k)] .e 0)) 32 1 = true := by kernel_rfl
theorem r33 : all1 (fun k => good (call 8 [.int .i64 (.ofNat k)] .e 0)) 33 1 = true := by kernel_rfl
theorem r34 : all1 (fun k => good (call 8 [.int .i64 (.ofNat k)] .e 0)) 34 1 = true := by kernel_rfl
theorem r35 : all1 (fun k => good (call 8 [.int .i64 (.ofNat k)] .e 0)) 35 1 = true := by kernel_rfl
theorem r36 : all1 (fun k => good (call 8 [.int .i64 (.ofNat k)] .e 0)) 36 1 = true := by kernel_rfl
theorem r37 : all1 (fun k => good (call 8 [.int .i64 (.ofNat k)] .e 0)) 37 1 = true := by kernel_rfl
theorem r38 : all1 (fun k => good (call 8 [.int .i64 (.ofNat k)] .e 0)) 38 1 = true := by kernel_rfl
theorem r39 : all1 (fun k => good (call 8 [.int .i64 (.ofNat k)] .e 0)) 39 1 = true := by kernel_rfl
end Go.Proofs.YtdcnbeiadgedpaaAK.KUna.KUnaOf
