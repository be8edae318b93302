/- What the runs of function 7 call: the interpreter over the compiled functions, with what is known of some. Written by a program of this claim's (genruns.py). -/
import Derived.Test.YtdcnbeiadgedpaaAJ16
import Derived.Test.YtdcnbeiadgedpaaJPick
import Derived.Test.YtdcnbeiadgedpaaJAvx
import Derived.Test.YtdcnbeiadgedpaaJAvxS20
import Derived.Test.YtdcnbeiadgedpaaJAvxS24
namespace Go.Proofs.YtdcnbeiadgedpaaAJ.JAvx.JPairs
open Go.Proofs Go.Proofs.YtdcnbeiadgedpaaAJ Go.Proofs.YtdcnbeiadgedpaaAJ.JAvx
set_option maxRecDepth 100000
noncomputable def call : CallF := callK 26 (smL [(20, S20), (24, S24)]) (envL env) 3000 60
theorem callOK : CallOK Try.prog call := callK_ok ⟨JPick.enter, fun x n h1 h2 w => JPick.pick x n h1 h2 w⟩ (smL_ok (l := [(20, S20), (24, S24)]) ⟨s20, s24, trivial⟩) envOK mixed 3000 60
end Go.Proofs.YtdcnbeiadgedpaaAJ.JAvx.JPairs
