/- What the runs of function 9 call: the interpreter over the compiled functions, with what is known of some. Written by a program of this claim's (genruns.py). -/
import Derived.Test.YtdcnbeiadgedpaaAK17
import Derived.Test.YtdcnbeiadgedpaaKPick
import Derived.Test.YtdcnbeiadgedpaaKUna
import Derived.Test.YtdcnbeiadgedpaaKUnaS29
import Derived.Test.YtdcnbeiadgedpaaKUnaS31
namespace Go.Proofs.YtdcnbeiadgedpaaAK.KUna.KUnaSh
open Go.Proofs Go.Proofs.YtdcnbeiadgedpaaAK Go.Proofs.YtdcnbeiadgedpaaAK.KUna
set_option maxRecDepth 100000
noncomputable def call : CallF := callM 26 [] (smL [(29, S29), (31, S31)]) (envL env) 3000 60
theorem callOK : CallOK Try.prog call := callM_ok ⟨KPick.enter, fun x n h1 h2 w => KPick.pick x n h1 h2 w⟩ (ms := []) trivial (smL_ok (l := [(29, S29), (31, S31)]) ⟨s29, s31, trivial⟩) envOK mixed 3000 60
end Go.Proofs.YtdcnbeiadgedpaaAK.KUna.KUnaSh
