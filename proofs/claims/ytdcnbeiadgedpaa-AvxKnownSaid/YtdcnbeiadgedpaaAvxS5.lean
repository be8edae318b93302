/- What function 5 comes to: run by the interpreter in the kernel. Written by a program of this claim's (gensum.py). -/
import Derived.Test.YtdcnbeiadgedpaaAvx
import Derived.Test.YtdcnbeiadgedpaaAvxS20
import Derived.Test.YtdcnbeiadgedpaaAvxS24
namespace Go.Proofs.YtdcnbeiadgedpaaAI.Avx
open Go.Proofs Go.Proofs.YtdcnbeiadgedpaaAI
set_option maxRecDepth 100000
noncomputable def S5 : Sm := ⟨(.bool true), [], 28794⟩
theorem s5 : SmOK Try.prog 5 S5 := sm_ok (callS_ok (smL_ok (l := [(20, S20), (24, S24)]) ⟨s20, s24, trivial⟩) envOK mixed 3000 60) (by kernel_rfl)
end Go.Proofs.YtdcnbeiadgedpaaAI.Avx
