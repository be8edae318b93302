/- Function 4, run for some of its cases. Written by a program of this claim's (genruns.py). -/
import Derived.Test.YtdcnbeiadgedpaaKAvxOfb
namespace Go.Proofs.YtdcnbeiadgedpaaAK.KAvx.KAvxOf
open Go.Proofs Go.Proofs.YtdcnbeiadgedpaaAK Go.Proofs.YtdcnbeiadgedpaaAK.KAvx
set_option maxRecDepth 100000
theorem r295 : all1 (fun k => good (call 4 [.int .i64 (.ofNat k)] .e 0)) 295 2 = true := by kernel_rfl
theorem r297 : all1 (fun k => good (call 4 [.int .i64 (.ofNat k)] .e 0)) 297 2 = true := by kernel_rfl
theorem r299 : all1 (fun k => good (call 4 [.int .i64 (.ofNat k)] .e 0)) 299 2 = true := by kernel_rfl
theorem r301 : all1 (fun k => good (call 4 [.int .i64 (.ofNat k)] .e 0)) 301 2 = true := by kernel_rfl
end Go.Proofs.YtdcnbeiadgedpaaAK.KAvx.KAvxOf
