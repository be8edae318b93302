/- Function 4, run for all numbers that are in none of some ranges. Written by a program of this claim's (genruns.py). -/
import Derived.Test.YtdcnbeiadgedpaaKAvxOfb
namespace Go.Proofs.YtdcnbeiadgedpaaAK.KAvx.KAvxOf
open Go.Proofs Go.Proofs.YtdcnbeiadgedpaaAK Go.Proofs.YtdcnbeiadgedpaaAK.KAvx
set_option maxRecDepth 100000
theorem off : good (call 4 [.num (.off ranges)] .e 0) = true := by kernel_rfl
end Go.Proofs.YtdcnbeiadgedpaaAK.KAvx.KAvxOf
