/- Calls that function 32 makes, each run by itself. Written by a program of this claim's (genmemo.py). -/
import Derived.Test.YtdcnbeiadgedpaaAK17
import Derived.Test.YtdcnbeiadgedpaaKPick
import Derived.Test.YtdcnbeiadgedpaaKSse
import Derived.Test.YtdcnbeiadgedpaaKSseS32h0
namespace Go.Proofs.YtdcnbeiadgedpaaAK.KSse
open Go.Proofs Go.Proofs.YtdcnbeiadgedpaaAK
set_option maxRecDepth 100000
noncomputable def kSseS32_3 : Memo := ⟨62, [(.ptr 0 0)], kSseS32_h2, 9806, (.tup []), kSseS32_h3, 17142⟩
theorem kSseS32_3_ok : MemoOK Try.prog kSseS32_3 := memo_ok (callM_ok ⟨KPick.enter, fun x n h1 h2 w => KPick.pick x n h1 h2 w⟩ (ms := []) trivial (smL_ok (l := []) trivial) envOK mixed 3000 60) (by kernel_rfl)
end Go.Proofs.YtdcnbeiadgedpaaAK.KSse
