/- Function 3, piece 4. Written by a program of this claim's (genpieces.py). -/
import Derived.Test.YtdcnbeiadgedpaaAvxT3b
import Derived.Test.YtdcnbeiadgedpaaAvxT3q3
namespace Go.Proofs.YtdcnbeiadgedpaaAI.Avx.AvxT3
open Go.Proofs Go.Proofs.YtdcnbeiadgedpaaAI Go.Proofs.YtdcnbeiadgedpaaAI.Avx
set_option maxRecDepth 100000
noncomputable def s4 : Sn := ⟨[(0, (.bool true))], [], 83840⟩
theorem t4 : Tri Try.prog Try.f3.ntmps p4 s3.st .nor s4.st := tri_run callOK mixed 3000 c4 (by kernel_rfl)
end Go.Proofs.YtdcnbeiadgedpaaAI.Avx.AvxT3
