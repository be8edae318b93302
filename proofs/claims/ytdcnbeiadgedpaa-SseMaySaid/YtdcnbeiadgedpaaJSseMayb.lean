/- What the runs of function 19 call: the interpreter over the compiled functions, with what is known of some. Written by a program of this claim's (genruns.py). -/
import Derived.Test.YtdcnbeiadgedpaaAJ17
import Derived.Test.YtdcnbeiadgedpaaJPick
import Derived.Test.YtdcnbeiadgedpaaJSse
import Derived.Test.YtdcnbeiadgedpaaJSseS14
import Derived.Test.YtdcnbeiadgedpaaJSseS32
namespace Go.Proofs.YtdcnbeiadgedpaaAJ.JSse.JSseMay
open Go.Proofs Go.Proofs.YtdcnbeiadgedpaaAJ Go.Proofs.YtdcnbeiadgedpaaAJ.JSse
set_option maxRecDepth 100000
noncomputable def call : CallF := callM 26 [] (smL [(14, S14), (32, S32)]) (envL env) 3000 60
theorem callOK : CallOK Try.prog call := callM_ok ⟨JPick.enter, fun x n h1 h2 w => JPick.pick x n h1 h2 w⟩ (ms := []) trivial (smL_ok (l := [(14, S14), (32, S32)]) ⟨s14, s32, trivial⟩) envOK mixed 3000 60
end Go.Proofs.YtdcnbeiadgedpaaAJ.JSse.JSseMay
