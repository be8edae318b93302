/- Function 11: its calls put together. Written by a program of this claim's (genmemo.py). -/
import Derived.Test.YtdcnbeiadgedpaaAJ17
import Derived.Test.YtdcnbeiadgedpaaJPick
import Derived.Test.YtdcnbeiadgedpaaJUna
import Derived.Test.YtdcnbeiadgedpaaJUnaS29
import Derived.Test.YtdcnbeiadgedpaaJUnaS31
namespace Go.Proofs.YtdcnbeiadgedpaaAJ.JUna
open Go.Proofs Go.Proofs.YtdcnbeiadgedpaaAJ
set_option maxRecDepth 100000
theorem JUnaKn.walk (w : World) : Calls Try.prog 11 #[] w fun e w' => e = .returned (.bool true) ∧ Go.RowKit.Below w.heap.size w w' := run_true (callM_ok ⟨JPick.enter, fun x n h1 h2 w => JPick.pick x n h1 h2 w⟩ (ms := []) trivial (smL_ok (l := [(29, S29), (31, S31)]) ⟨s29, s31, trivial⟩) envOK mixed 3000 60) (by kernel_rfl) w #[] .nil
end Go.Proofs.YtdcnbeiadgedpaaAJ.JUna
