/- Function 8, run for all numbers that are in none of some ranges. Written by a program of this claim's (genruns.py). -/
import Derived.Test.YtdcnbeiadgedpaaKUnaOfb
namespace Go.Proofs.YtdcnbeiadgedpaaAK.KUna.KUnaOf
open Go.Proofs Go.Proofs.YtdcnbeiadgedpaaAK Go.Proofs.YtdcnbeiadgedpaaAK.KUna
set_option maxRecDepth 100000
theorem off : good (call 8 [.num (.off ranges)] .e 0) = true := by kernel_rfl
end Go.Proofs.YtdcnbeiadgedpaaAK.KUna.KUnaOf
