/- AvxKnown returns true. -/
import Derived.Test.YtdcnbeiadgedpaaAI15
import Derived.Test.YtdcnbeiadgedpaaAvxS5
namespace Go.Proofs.YtdcnbeiadgedpaaAI.Avx.AvxW5
open Go.Proofs Go.Proofs.YtdcnbeiadgedpaaAI Go.Proofs.YtdcnbeiadgedpaaAI.Avx
theorem walk (w : World) : Calls Try.prog 5 #[] w fun e w' => e = .returned (.bool true) ∧ Go.RowKit.Below w.heap.size w w' := sm_true s5 rfl w
end Go.Proofs.YtdcnbeiadgedpaaAI.Avx.AvxW5
