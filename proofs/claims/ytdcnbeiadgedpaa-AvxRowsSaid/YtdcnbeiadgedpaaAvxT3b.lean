/- Function 3 in pieces. Written by a program of this claim's (genpieces.py). -/
import Derived.Test.YtdcnbeiadgedpaaAI15
import Derived.Test.YtdcnbeiadgedpaaAvx
import Derived.Test.YtdcnbeiadgedpaaAvxS20
import Derived.Test.YtdcnbeiadgedpaaAvxS24
import Derived.Test.YtdcnbeiadgedpaaAvxS22
namespace Go.Proofs.YtdcnbeiadgedpaaAI.Avx.AvxT3
open Go.Proofs Go.Proofs.YtdcnbeiadgedpaaAI Go.Proofs.YtdcnbeiadgedpaaAI.Avx
set_option maxRecDepth 100000
noncomputable def body : Code := match Try.f3.body with
  | some c => c
  | none => .skip
theorem hb : Try.f3.body = some body := by kernel_rfl
noncomputable def call : CallF := callS (smL [(20, S20), (24, S24), (22, S22)]) (envL env) 3000 60
theorem callOK : CallOK Try.prog call := callS_ok (smL_ok (l := [(20, S20), (24, S24), (22, S22)]) ⟨s20, s24, s22, trivial⟩) envOK mixed 3000 60
noncomputable def p0 : Code := seqL (body)
noncomputable def a0 : AC := (.reg [⟨(some 0), none, (.p (.mv (.con (.bool false)))), [], 0⟩])
theorem c0 : compCode Try.prog Try.f3.ntmps p0 = some a0 := by kernel_rfl
noncomputable def p1 : Code := seqL (seqR (body))
noncomputable def a1 : AC := (.reg [⟨(some 3), none, (.c (.con (.fn 20 [] [])) []), [], 0⟩, ⟨(some 1), none, (.p (.mv (.tmp 3))), [], 0⟩])
theorem c1 : compCode Try.prog Try.f3.ntmps p1 = some a1 := by kernel_rfl
noncomputable def p2 : Code := seqL (seqR (seqR (body)))
noncomputable def a2 : AC := (.reg [⟨(some 4), none, (.p (.mv (.tmp 1))), [], 0⟩, ⟨(some 5), none, (.c (.con (.fn 22 [] [])) []), [], 0⟩, ⟨(some 6), none, (.c (.con (.fn 21 [] [])) [(.tmp 4), (.tmp 5)]), [], 0⟩, ⟨(some 2), none, (.p (.mv (.tmp 6))), [], 0⟩])
theorem c2 : compCode Try.prog Try.f3.ntmps p2 = some a2 := by kernel_rfl
noncomputable def p3 : Code := seqL (seqR (seqR (seqR (body))))
noncomputable def a3 : AC := (.reg [⟨(some 7), none, (.p (.mv (.tmp 1))), [], 0⟩, ⟨(some 8), none, (.c (.con (.fn 23 [] [])) [(.tmp 7)]), [], 0⟩])
theorem c3 : compCode Try.prog Try.f3.ntmps p3 = some a3 := by kernel_rfl
noncomputable def p4 : Code := seqL (seqR (seqR (seqR (seqR (body)))))
noncomputable def a4 : AC := (.reg [⟨(some 9), none, (.p (.mv (.tmp 2))), [], 0⟩, ⟨(some 10), none, (.p (.mv (.tmp 9))), [], 0⟩, ⟨(some 11), (some (10, true)), (.c (.con (.fn 20 [] [])) []), [], 0⟩, ⟨(some 12), (some (10, true)), (.c (.con (.fn 22 [] [])) []), [], 0⟩, ⟨(some 13), (some (10, true)), (.c (.con (.fn 21 [] [])) [(.tmp 11), (.tmp 12)]), [], 0⟩, ⟨(some 14), none, (.p (.pick (.tmp 10) (.tmp 13) (.con (.bool false)))), [], 0⟩, ⟨(some 15), none, (.p (.mv (.tmp 14))), [], 0⟩, ⟨(some 16), (some (15, true)), (.c (.con (.fn 24 [] [])) []), [], 0⟩, ⟨(some 17), none, (.p (.pick (.tmp 15) (.tmp 16) (.con (.bool false)))), [], 0⟩, ⟨(some 0), none, (.p (.mv (.tmp 17))), [], 0⟩])
theorem c4 : compCode Try.prog Try.f3.ntmps p4 = some a4 := by kernel_rfl
noncomputable def p5 : Code := (seqR (seqR (seqR (seqR (seqR (body))))))
noncomputable def a5 : AC := .ret
theorem c5 : compCode Try.prog Try.f3.ntmps p5 = some a5 := by kernel_rfl
theorem parts : body = .seq p0 (.seq p1 (.seq p2 (.seq p3 (.seq p4 (p5))))) := by kernel_rfl
end Go.Proofs.YtdcnbeiadgedpaaAI.Avx.AvxT3
