/- Calls that function 29 makes, each run by itself. Written by a program of this claim's (genmemo.py). -/
import Derived.Test.YtdcnbeiadgedpaaAK17
import Derived.Test.YtdcnbeiadgedpaaKPick
import Derived.Test.YtdcnbeiadgedpaaKUna
import Derived.Test.YtdcnbeiadgedpaaKUnaS29h0
namespace Go.Proofs.YtdcnbeiadgedpaaAK.KUna
open Go.Proofs Go.Proofs.YtdcnbeiadgedpaaAK
set_option maxRecDepth 100000
noncomputable def kUnaS29_2 : Memo := ⟨51, [(.sl 10629 0 116 116 10)], kUnaS29_h1, 10630, (.sl 13149 0 138 138 10), kUnaS29_h2, 13150⟩
theorem kUnaS29_2_ok : MemoOK Try.prog kUnaS29_2 := memo_ok (callM_ok ⟨KPick.enter, fun x n h1 h2 w => KPick.pick x n h1 h2 w⟩ (ms := []) trivial (smL_ok (l := []) trivial) envOK mixed 3000 60) (by kernel_rfl)
end Go.Proofs.YtdcnbeiadgedpaaAK.KUna
