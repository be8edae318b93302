/- Function 34: its calls put together. Written by a program of this claim's (genmemo.py). -/
import Derived.Test.YtdcnbeiadgedpaaAK17
import Derived.Test.YtdcnbeiadgedpaaKPick
import Derived.Test.YtdcnbeiadgedpaaKSse
import Derived.Test.YtdcnbeiadgedpaaKSseS32
namespace Go.Proofs.YtdcnbeiadgedpaaAK.KSse
open Go.Proofs Go.Proofs.YtdcnbeiadgedpaaAK
set_option maxRecDepth 100000
noncomputable def S34 : Sm := ⟨(.bool true), [], 20964⟩
theorem s34 : SmOK Try.prog 34 S34 := sm_ok (callM_ok ⟨KPick.enter, fun x n h1 h2 w => KPick.pick x n h1 h2 w⟩ (ms := []) trivial (smL_ok (l := [(32, S32)]) ⟨s32, trivial⟩) envOK mixed 3000 60) (by kernel_rfl)
end Go.Proofs.YtdcnbeiadgedpaaAK.KSse
