/- Function 3: its pieces put together. Written by a program of this claim's (genpieces.py). -/
import Derived.Test.YtdcnbeiadgedpaaAvxT3q4
namespace Go.Proofs.YtdcnbeiadgedpaaAI.Avx.AvxT3
open Go.Proofs Go.Proofs.YtdcnbeiadgedpaaAI Go.Proofs.YtdcnbeiadgedpaaAI.Avx
set_option maxRecDepth 100000
noncomputable def fin : St := match exec call 3000 a5 s4.st with
  | some (_, s) => s
  | none => s4.st
theorem t5 : Tri Try.prog Try.f3.ntmps p5 s4.st .ret fin := tri_end callOK mixed 3000 c5 (by kernel_rfl)
theorem all : Tri Try.prog Try.f3.ntmps body ⟨.e, .e, 0⟩ .ret fin := by
  rw [parts]
  exact tri_seq t0 (tri_seq t1 (tri_seq t2 (tri_seq t3 (tri_seq t4 (t5)))))
theorem walk (w : World) : Calls Try.prog 3 #[] w fun e w' => e = .returned (.bool true) ∧ Go.RowKit.Below w.heap.size w w' :=
  tri_true (s' := fin) (ars := [(.tmp 0)]) Try.func3 hb (.inr rfl) all (by kernel_rfl) (by kernel_rfl) w
end Go.Proofs.YtdcnbeiadgedpaaAI.Avx.AvxT3
