/- Function 4, run for some of its cases. Written by a program of this claim's (genruns.py). -/
import Derived.Test.YtdcnbeiadgedpaaKAvxOfb
namespace Go.Proofs.YtdcnbeiadgedpaaAK.KAvx.KAvxOf
open Go.Proofs Go.Proofs.YtdcnbeiadgedpaaAK Go.Proofs.YtdcnbeiadgedpaaAK.KAvx
set_option maxRecDepth 100000
theorem r279 : all1 (fun k => good (call 4 [.int .i64 (.ofNat k)] .e 0)) 279 2 = true := by kernel_rfl
theorem r281 : all1 (fun k => good (call 4 [.int .i64 (.ofNat k)] .e 0)) 281 2 = true := by kernel_rfl
theorem r283 : all1 (fun k => good (call 4 [.int .i64 (.ofNat k)] .e 0)) 283 2 = true := by kernel_rfl
theorem r285 : all1 (fun k => good (call 4 [.int .i64 (.ofNat k)] .e 0)) 285 2 = true := by kernel_rfl
end Go.Proofs.YtdcnbeiadgedpaaAK.KAvx.KAvxOf
