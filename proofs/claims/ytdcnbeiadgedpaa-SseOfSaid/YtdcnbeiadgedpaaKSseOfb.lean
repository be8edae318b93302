/- What the runs of function 13 call: the interpreter over the compiled functions, with what is known of some. Written by a program of this claim's (genruns.py). -/
import Derived.Test.YtdcnbeiadgedpaaAK17
import Derived.Test.YtdcnbeiadgedpaaKPick
import Derived.Test.YtdcnbeiadgedpaaKSse
import Derived.Test.YtdcnbeiadgedpaaKSseS32
import Derived.Test.YtdcnbeiadgedpaaKSseS33
import Derived.Test.YtdcnbeiadgedpaaKSseS34
namespace Go.Proofs.YtdcnbeiadgedpaaAK.KSse.KSseOf
open Go.Proofs Go.Proofs.YtdcnbeiadgedpaaAK Go.Proofs.YtdcnbeiadgedpaaAK.KSse
set_option maxRecDepth 100000
noncomputable def call : CallF := callM 26 [] (smL [(32, S32), (33, S33), (34, S34)]) (envL env) 3000 60
theorem callOK : CallOK Try.prog call := callM_ok ⟨KPick.enter, fun x n h1 h2 w => KPick.pick x n h1 h2 w⟩ (ms := []) trivial (smL_ok (l := [(32, S32), (33, S33), (34, S34)]) ⟨s32, s33, s34, trivial⟩) envOK mixed 3000 60
noncomputable def ranges : List (Int × Int) := [(.ofNat 136, .ofNat 262)]
end Go.Proofs.YtdcnbeiadgedpaaAK.KSse.KSseOf
