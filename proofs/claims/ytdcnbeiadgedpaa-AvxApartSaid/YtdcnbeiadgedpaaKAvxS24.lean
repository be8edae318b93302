/- Function 24: its calls put together. Written by a program of this claim's (genmemo.py). -/
import Derived.Test.YtdcnbeiadgedpaaAK17
import Derived.Test.YtdcnbeiadgedpaaKPick
import Derived.Test.YtdcnbeiadgedpaaKAvx
import Derived.Test.YtdcnbeiadgedpaaKAvxS20
namespace Go.Proofs.YtdcnbeiadgedpaaAK.KAvx
open Go.Proofs Go.Proofs.YtdcnbeiadgedpaaAK
set_option maxRecDepth 100000
noncomputable def S24 : Sm := ⟨(.bool true), [], 14600⟩
theorem s24 : SmOK Try.prog 24 S24 := sm_ok (callM_ok ⟨KPick.enter, fun x n h1 h2 w => KPick.pick x n h1 h2 w⟩ (ms := []) trivial (smL_ok (l := [(20, S20)]) ⟨s20, trivial⟩) envOK mixed 3000 60) (by kernel_rfl)
end Go.Proofs.YtdcnbeiadgedpaaAK.KAvx
