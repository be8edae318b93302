/- What the runs of function 18 call: the interpreter over the compiled functions, with what is known of some. Written by a program of this claim's (genruns.py). -/
import Derived.Test.YtdcnbeiadgedpaaAJ17
import Derived.Test.YtdcnbeiadgedpaaJPick
import Derived.Test.YtdcnbeiadgedpaaJUna
import Derived.Test.YtdcnbeiadgedpaaJUnaS29
import Derived.Test.YtdcnbeiadgedpaaJUnaS31
namespace Go.Proofs.YtdcnbeiadgedpaaAJ.JUna.JUnaMay
open Go.Proofs Go.Proofs.YtdcnbeiadgedpaaAJ Go.Proofs.YtdcnbeiadgedpaaAJ.JUna
set_option maxRecDepth 100000
noncomputable def call : CallF := callM 26 [] (smL [(29, S29), (31, S31)]) (envL env) 3000 60
theorem callOK : CallOK Try.prog call := callM_ok ⟨JPick.enter, fun x n h1 h2 w => JPick.pick x n h1 h2 w⟩ (ms := []) trivial (smL_ok (l := [(29, S29), (31, S31)]) ⟨s29, s31, trivial⟩) envOK mixed 3000 60
end Go.Proofs.YtdcnbeiadgedpaaAJ.JUna.JUnaMay
