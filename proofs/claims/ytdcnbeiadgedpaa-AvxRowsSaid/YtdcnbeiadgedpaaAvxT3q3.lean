/- Function 3, piece 3. Written by a program of this claim's (genpieces.py). -/
import Derived.Test.YtdcnbeiadgedpaaAvxT3b
import Derived.Test.YtdcnbeiadgedpaaAvxT3q2
namespace Go.Proofs.YtdcnbeiadgedpaaAI.Avx.AvxT3
open Go.Proofs Go.Proofs.YtdcnbeiadgedpaaAI Go.Proofs.YtdcnbeiadgedpaaAI.Avx
set_option maxRecDepth 100000
noncomputable def s3 : Sn := ⟨[(0, (.bool false)), (2, (.bool true))], [], 34620⟩
theorem t3 : Tri Try.prog Try.f3.ntmps p3 s2.st .nor s3.st := tri_run callOK mixed 3000 c3 (by kernel_rfl)
end Go.Proofs.YtdcnbeiadgedpaaAI.Avx.AvxT3
