/- Function 13, run for all numbers that are in none of some ranges. Written by a program of this claim's (genruns.py). -/
import Derived.Test.YtdcnbeiadgedpaaKSseOfb
namespace Go.Proofs.YtdcnbeiadgedpaaAK.KSse.KSseOf
open Go.Proofs Go.Proofs.YtdcnbeiadgedpaaAK Go.Proofs.YtdcnbeiadgedpaaAK.KSse
set_option maxRecDepth 100000
theorem off : good (call 13 [.num (.off ranges)] .e 0) = true := by kernel_rfl
end Go.Proofs.YtdcnbeiadgedpaaAK.KSse.KSseOf
