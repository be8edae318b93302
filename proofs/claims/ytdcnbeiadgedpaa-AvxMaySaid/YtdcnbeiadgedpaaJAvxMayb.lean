/- What the runs of function 17 call: the interpreter over the compiled functions, with what is known of some. Written by a program of this claim's (genruns.py). -/
import Derived.Test.YtdcnbeiadgedpaaAJ17
import Derived.Test.YtdcnbeiadgedpaaJPick
import Derived.Test.YtdcnbeiadgedpaaJAvx
import Derived.Test.YtdcnbeiadgedpaaJAvxS5
import Derived.Test.YtdcnbeiadgedpaaJAvxS20
namespace Go.Proofs.YtdcnbeiadgedpaaAJ.JAvx.JAvxMay
open Go.Proofs Go.Proofs.YtdcnbeiadgedpaaAJ Go.Proofs.YtdcnbeiadgedpaaAJ.JAvx
set_option maxRecDepth 100000
noncomputable def call : CallF := callM 26 [] (smL [(5, S5), (20, S20)]) (envL env) 3000 60
theorem callOK : CallOK Try.prog call := callM_ok ⟨JPick.enter, fun x n h1 h2 w => JPick.pick x n h1 h2 w⟩ (ms := []) trivial (smL_ok (l := [(5, S5), (20, S20)]) ⟨s5, s20, trivial⟩) envOK mixed 3000 60
end Go.Proofs.YtdcnbeiadgedpaaAJ.JAvx.JAvxMay
