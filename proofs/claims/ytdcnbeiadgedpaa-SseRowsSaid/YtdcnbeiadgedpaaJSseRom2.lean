/- Calls that function 12 makes, each run by itself. Written by a program of this claim's (genmemo.py). -/
import Derived.Test.YtdcnbeiadgedpaaAJ17
import Derived.Test.YtdcnbeiadgedpaaJPick
import Derived.Test.YtdcnbeiadgedpaaJSse
import Derived.Test.YtdcnbeiadgedpaaJSseS32
import Derived.Test.YtdcnbeiadgedpaaJSseS33
import Derived.Test.YtdcnbeiadgedpaaJSseS34
import Derived.Test.YtdcnbeiadgedpaaJSseRoh0
import Derived.Test.YtdcnbeiadgedpaaJSseRoh1
namespace Go.Proofs.YtdcnbeiadgedpaaAJ.JSse
open Go.Proofs Go.Proofs.YtdcnbeiadgedpaaAJ
set_option maxRecDepth 100000
noncomputable def jSseRo_2 : Memo := ⟨21, [(.sl 60247 0 151 151 10), (.sl 64191 0 151 151 10)], jSseRo_h3, 64192, (.bool true), jSseRo_h3, 79012⟩
theorem jSseRo_2_ok : MemoOK Try.prog jSseRo_2 := memo_ok (callM_ok ⟨JPick.enter, fun x n h1 h2 w => JPick.pick x n h1 h2 w⟩ (ms := []) trivial (smL_ok (l := [(32, S32), (33, S33), (34, S34)]) ⟨s32, s33, s34, trivial⟩) envOK mixed 3000 60) (by kernel_rfl)
end Go.Proofs.YtdcnbeiadgedpaaAJ.JSse
