/- What the runs of function 16 call: the interpreter over the compiled functions, with what is known of some. Written by a program of this claim's (genruns.py). -/
import Derived.Test.YtdcnbeiadgedpaaAJ17
import Derived.Test.YtdcnbeiadgedpaaJPick
import Derived.Test.YtdcnbeiadgedpaaJSse
import Derived.Test.YtdcnbeiadgedpaaJSseS32
import Derived.Test.YtdcnbeiadgedpaaJSseS34
namespace Go.Proofs.YtdcnbeiadgedpaaAJ.JSse.JSseAll
open Go.Proofs Go.Proofs.YtdcnbeiadgedpaaAJ Go.Proofs.YtdcnbeiadgedpaaAJ.JSse
set_option maxRecDepth 100000
noncomputable def call : CallF := callM 26 [] (smL [(32, S32), (34, S34)]) (envL env) 3000 60
theorem callOK : CallOK Try.prog call := callM_ok ⟨JPick.enter, fun x n h1 h2 w => JPick.pick x n h1 h2 w⟩ (ms := []) trivial (smL_ok (l := [(32, S32), (34, S34)]) ⟨s32, s34, trivial⟩) envOK mixed 3000 60
end Go.Proofs.YtdcnbeiadgedpaaAJ.JSse.JSseAll
