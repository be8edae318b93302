/- What function 24 comes to: run by the interpreter in the kernel. Written by a program of this claim's (gensum.py). -/
import Derived.Test.YtdcnbeiadgedpaaJAvx
import Derived.Test.YtdcnbeiadgedpaaJAvxS20
namespace Go.Proofs.YtdcnbeiadgedpaaAJ.JAvx
open Go.Proofs Go.Proofs.YtdcnbeiadgedpaaAJ
set_option maxRecDepth 100000
noncomputable def S24 : Sm := ⟨(.bool true), [], 14600⟩
theorem s24 : SmOK Try.prog 24 S24 := sm_ok (callS_ok (smL_ok (l := [(20, S20)]) ⟨s20, trivial⟩) envOK mixed 3000 60) (by kernel_rfl)
end Go.Proofs.YtdcnbeiadgedpaaAJ.JAvx
