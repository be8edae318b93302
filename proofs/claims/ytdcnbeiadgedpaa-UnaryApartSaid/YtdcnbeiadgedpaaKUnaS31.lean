/- Function 31: its calls put together. Written by a program of this claim's (genmemo.py). -/
import Derived.Test.YtdcnbeiadgedpaaAK17
import Derived.Test.YtdcnbeiadgedpaaKPick
import Derived.Test.YtdcnbeiadgedpaaKUna
import Derived.Test.YtdcnbeiadgedpaaKUnaS29
namespace Go.Proofs.YtdcnbeiadgedpaaAK.KUna
open Go.Proofs Go.Proofs.YtdcnbeiadgedpaaAK
set_option maxRecDepth 100000
noncomputable def S31 : Sm := ⟨(.bool true), [], 16082⟩
theorem s31 : SmOK Try.prog 31 S31 := sm_ok (callM_ok ⟨KPick.enter, fun x n h1 h2 w => KPick.pick x n h1 h2 w⟩ (ms := []) trivial (smL_ok (l := [(29, S29)]) ⟨s29, trivial⟩) envOK mixed 3000 60) (by kernel_rfl)
end Go.Proofs.YtdcnbeiadgedpaaAK.KUna
