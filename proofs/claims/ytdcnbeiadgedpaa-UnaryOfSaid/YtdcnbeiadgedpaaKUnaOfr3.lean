/- Function 8, run for some of its cases. Written by a program of this claim's (genruns.py). -/
import Derived.Test.YtdcnbeiadgedpaaKUnaOfb
namespace Go.Proofs.YtdcnbeiadgedpaaAK.KUna.KUnaOf
open Go.Proofs Go.Proofs.YtdcnbeiadgedpaaAK Go.Proofs.YtdcnbeiadgedpaaAK.KUna
set_option maxRecDepth 100000
theorem r40 : all1 (fun k => good (call 8 [.int .i64 (.ofNat k)] .e 0)) 40 1 = true := by kernel_rfl
theorem r41 : all1 (fun k => good (call 8 [.int .i64 (.ofNat k)] .e 0)) 41 1 = true := by kernel_rfl
theorem r42 : all1 (fun k => good (call 8 [.int .i64 (.ofNat k)] .e 0)) 42 1 = true := by kernel_rfl
theorem r43 : all1 (fun k => good (call 8 [.int .i64 (.ofNat k)] .e 0)) 43 1 = true := by kernel_rfl
theorem r44 : all1 (fun k => good (call 8 [.int .i64 (.ofNat k)] .e 0)) 44 1 = true := by kernel_rfl
theorem r45 : all1 (fun k => good (call 8 [.int .i64 (.ofNat k)] .e 0)) 45 1 = true := by kernel_rfl
theorem r46 : all1 (fun k => good (call 8 [.int .i64 (.ofNat k)] .e 0)) 46 1 = true := by kernel_rfl
theorem r47 : all1 (fun k => good (call 8 [.int .i64 (.ofNat k)] .e 0)) 47 1 = true := by kernel_rfl
end Go.Proofs.YtdcnbeiadgedpaaAK.KUna.KUnaOf
