/- Function 34: its calls put together. Written by a program of this claim's (genmemo.py). -/
import Derived.Test.YtdcnbeiadgedpaaAJ17
import Derived.Test.YtdcnbeiadgedpaaJPick
import Derived.Test.YtdcnbeiadgedpaaJSse
import Derived.Test.YtdcnbeiadgedpaaJSseS32
namespace Go.Proofs.YtdcnbeiadgedpaaAJ.JSse
open Go.Proofs Go.Proofs.YtdcnbeiadgedpaaAJ
set_option maxRecDepth 100000
noncomputable def S34 : Sm := ⟨(.bool true), [], 20964⟩
theorem s34 : SmOK Try.prog 34 S34 := sm_ok (callM_ok ⟨JPick.enter, fun x n h1 h2 w => JPick.pick x n h1 h2 w⟩ (ms := []) trivial (smL_ok (l := [(32, S32)]) ⟨s32, trivial⟩) envOK mixed 3000 60) (by kernel_rfl)
end Go.Proofs.YtdcnbeiadgedpaaAJ.JSse
