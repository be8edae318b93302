/- Function 4, run for some of its cases. Written by a program of this claim's (genruns.py). -/
import Derived.Test.YtdcnbeiadgedpaaKAvxOfb
namespace Go.Proofs.YtdcnbeiadgedpaaAK.KAvx.KAvxOf
open Go.Proofs Go.Proofs.YtdcnbeiadgedpaaAK Go.Proofs.YtdcnbeiadgedpaaAK.KAvx
set_option maxRecDepth 100000
theorem r263 : all1 (fun k => good (call 4 [.int .i64 (.ofNat k)] .e 0)) 263 2 = true := by kernel_rfl
theorem r265 : all1 (fun k => good (call 4 [.int .i64 (.ofNat k)] .e 0)) 265 2 = true := by kernel_rfl
theorem r267 : all1 (fun k => good (call 4 [.int .i64 (.ofNat k)] .e 0)) 267 2 = true := by kernel_rfl
theorem r269 : all1 (fun k => good (call 4 [.int .i64 (.ofNat k)] .e 0)) 269 2 = true := by kernel_rfl
end Go.Proofs.YtdcnbeiadgedpaaAK.KAvx.KAvxOf
