/- What the runs of function 4 call: the interpreter over the compiled functions, with what is known of some. Written by a program of this claim's (genruns.py). -/
import Derived.Test.YtdcnbeiadgedpaaAK17
import Derived.Test.YtdcnbeiadgedpaaKPick
import Derived.Test.YtdcnbeiadgedpaaKAvx
import Derived.Test.YtdcnbeiadgedpaaKAvxS20
import Derived.Test.YtdcnbeiadgedpaaKAvxS22
import Derived.Test.YtdcnbeiadgedpaaKAvxS24
namespace Go.Proofs.YtdcnbeiadgedpaaAK.KAvx.KAvxOf
open Go.Proofs Go.Proofs.YtdcnbeiadgedpaaAK Go.Proofs.YtdcnbeiadgedpaaAK.KAvx
set_option maxRecDepth 100000
noncomputable def call : CallF := callM 26 [] (smL [(20, S20), (22, S22), (24, S24)]) (envL env) 3000 60
theorem callOK : CallOK Try.prog call := callM_ok ⟨KPick.enter, fun x n h1 h2 w => KPick.pick x n h1 h2 w⟩ (ms := []) trivial (smL_ok (l := [(20, S20), (22, S22), (24, S24)]) ⟨s20, s22, s24, trivial⟩) envOK mixed 3000 60
noncomputable def ranges : List (Int × Int) := [(.ofNat 263, .ofNat 322)]
end Go.Proofs.YtdcnbeiadgedpaaAK.KAvx.KAvxOf
