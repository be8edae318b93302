/- Function 12: its calls put together. Written by a program of this claim's (genmemo.py). -/
import Derived.Test.YtdcnbeiadgedpaaJSseRom0
import Derived.Test.YtdcnbeiadgedpaaJSseRom1
import Derived.Test.YtdcnbeiadgedpaaJSseRom2
namespace Go.Proofs.YtdcnbeiadgedpaaAJ.JSse
open Go.Proofs Go.Proofs.YtdcnbeiadgedpaaAJ
set_option maxRecDepth 100000
theorem JSseRo.walk (w : World) : Calls Try.prog 12 #[] w fun e w' => e = .returned (.bool true) ∧ Go.RowKit.Below w.heap.size w w' := run_true (callM_ok ⟨JPick.enter, fun x n h1 h2 w => JPick.pick x n h1 h2 w⟩ (ms := [jSseRo_0, jSseRo_1, jSseRo_2]) ⟨jSseRo_0_ok, jSseRo_1_ok, jSseRo_2_ok, trivial⟩ (smL_ok (l := [(32, S32), (33, S33), (34, S34)]) ⟨s32, s33, s34, trivial⟩) envOK mixed 3000 60) (by kernel_rfl) w #[] .nil
end Go.Proofs.YtdcnbeiadgedpaaAJ.JSse
