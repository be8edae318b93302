/- Function 4, run for some of its cases. Written by a program of this claim's (genruns.py). -/
import Derived.Test.YtdcnbeiadgedpaaKAvxOfb
namespace Go.Proofs.YtdcnbeiadgedpaaAK.KAvx.KAvxOf
open Go.Proofs Go.Proofs.YtdcnbeiadgedpaaAK Go.Proofs.YtdcnbeiadgedpaaAK.KAvx
set_option maxRecDepth 100000
theorem r271 : all1 (fun k => good (call 4 [.int .i64 (.ofNat k)] .e 0)) 271 2 = true := by kernel_rfl
theorem r273 : all1 (fun k => good (call 4 [.int .i64 (.ofNat k)] .e 0)) 273 2 = true := by kernel_rfl
theorem r275 : all1 (fun k => good (call 4 [.int .i64 (.ofNat k)] .e 0)) 275 2 = true := by kernel_rfl
theorem r277 : all1 (fun k => good (call 4 [.int .i64 (.ofNat k)] .e 0)) 277 2 = true := by kernel_rfl
end Go.Proofs.YtdcnbeiadgedpaaAK.KAvx.KAvxOf
