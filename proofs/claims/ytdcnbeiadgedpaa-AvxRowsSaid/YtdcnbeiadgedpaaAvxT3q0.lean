/- Function 3, piece 0. Written by a program of this claim's (genpieces.py). -/
import Derived.Test.YtdcnbeiadgedpaaAvxT3b
namespace Go.Proofs.YtdcnbeiadgedpaaAI.Avx.AvxT3
open Go.Proofs Go.Proofs.YtdcnbeiadgedpaaAI Go.Proofs.YtdcnbeiadgedpaaAI.Avx
set_option maxRecDepth 100000
noncomputable def s0 : Sn := ⟨[(0, (.bool false))], [], 0⟩
theorem t0 : Tri Try.prog Try.f3.ntmps p0 ⟨.e, .e, 0⟩ .nor s0.st := tri_run callOK mixed 3000 c0 (by kernel_rfl)
end Go.Proofs.YtdcnbeiadgedpaaAI.Avx.AvxT3
