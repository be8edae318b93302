/- Function 4, run for some of its cases. Written by a program of this claim's (genruns.py). -/
import Derived.Test.YtdcnbeiadgedpaaKAvxOfb
namespace Go.Proofs.YtdcnbeiadgedpaaAK.KAvx.KAvxOf
open Go.Proofs Go.Proofs.YtdcnbeiadgedpaaAK Go.Proofs.YtdcnbeiadgedpaaAK.KAvx
set_option maxRecDepth 100000
theorem r303 : all1 (fun k => good (call 4 [.int .i64 (.ofNat k)] .e 0)) 303 2 = true := by kernel_rfl
theorem r305 : all1 (fun k => good (call 4 [.int .i64 (.ofNat k)] .e 0)) 305 2 = true := by kernel_rfl
theorem r307 : all1 (fun k => good (call 4 [.int .i64 (.ofNat k)] .e 0)) 307 2 = true := by kernel_rfl
theorem r309 : all1 (fun k => good (call 4 [.int .i64 (.ofNat k)] .e 0)) 309 2 = true := by kernel_rfl
end Go.Proofs.YtdcnbeiadgedpaaAK.KAvx.KAvxOf
