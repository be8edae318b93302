/- What function 5 comes to: run by the interpreter in the kernel. Written by a program of this claim's (gensum.py). -/
import Derived.Test.YtdcnbeiadgedpaaJAvx
import Derived.Test.YtdcnbeiadgedpaaJAvxS20
import Derived.Test.YtdcnbeiadgedpaaJAvxS24
namespace Go.Proofs.YtdcnbeiadgedpaaAJ.JAvx
open Go.Proofs Go.Proofs.YtdcnbeiadgedpaaAJ
set_option maxRecDepth 100000
noncomputable def S5 : Sm := ⟨(.bool true), [], 28794⟩
theorem s5 : SmOK Try.prog 5 S5 := sm_ok (callS_ok (smL_ok (l := [(20, S20), (24, S24)]) ⟨s20, s24, trivial⟩) envOK mixed 3000 60) (by kernel_rfl)
end Go.Proofs.YtdcnbeiadgedpaaAJ.JAvx
