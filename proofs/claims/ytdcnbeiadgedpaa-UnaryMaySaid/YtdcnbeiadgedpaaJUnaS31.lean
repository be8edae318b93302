/- Function 31: its calls put together. Written by a program of this claim's (genmemo.py). -/
import Derived.Test.YtdcnbeiadgedpaaAJ17
import Derived.Test.YtdcnbeiadgedpaaJPick
import Derived.Test.YtdcnbeiadgedpaaJUna
import Derived.Test.YtdcnbeiadgedpaaJUnaS29
namespace Go.Proofs.YtdcnbeiadgedpaaAJ.JUna
open Go.Proofs Go.Proofs.YtdcnbeiadgedpaaAJ
set_option maxRecDepth 100000
noncomputable def S31 : Sm := ⟨(.bool true), [], 16082⟩
theorem s31 : SmOK Try.prog 31 S31 := sm_ok (callM_ok ⟨JPick.enter, fun x n h1 h2 w => JPick.pick x n h1 h2 w⟩ (ms := []) trivial (smL_ok (l := [(29, S29)]) ⟨s29, trivial⟩) envOK mixed 3000 60) (by kernel_rfl)
end Go.Proofs.YtdcnbeiadgedpaaAJ.JUna
