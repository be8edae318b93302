/- Function 128: its calls put together. Written by a program of this claim's (genmemo.py). -/
import Derived.Test.YtdcnbeiadgedpaaAK17
import Derived.Test.YtdcnbeiadgedpaaKPick
import Derived.Test.YtdcnbeiadgedpaaKSse
namespace Go.Proofs.YtdcnbeiadgedpaaAK.KSse
open Go.Proofs Go.Proofs.YtdcnbeiadgedpaaAK
set_option maxRecDepth 100000
noncomputable def S128 : Sm := ⟨(.sl 0 0 46 46 1), [(0, ⟨[(.int .i64 (.ofNat 252)), (.int .i64 (.ofNat 253)), (.int .i64 (.ofNat 254)), (.int .i64 (.ofNat 212)), (.int .i64 (.ofNat 248)), (.int .i64 (.ofNat 249)), (.int .i64 (.ofNat 250)), (.int .i64 (.ofNat 251)), (.int .i64 (.ofNat 213)), (.int .i64 (.ofNat 320)), (.int .i64 (.ofNat 244)), (.int .i64 (.ofNat 219)), (.int .i64 (.ofNat 223)), (.int .i64 (.ofNat 235)), (.int .i64 (.ofNat 239)), (.int .i64 (.ofNat 116)), (.int .i64 (.ofNat 117)), (.int .i64 (.ofNat 118)), (.int .i64 (.ofNat 100)), (.int .i64 (.ofNat 101)), (.int .i64 (.ofNat 102)), (.int .i64 (.ofNat 218)), (.int .i64 (.ofNat 222)), (.int .i64 (.ofNat 234)), (.int .i64 (.ofNat 238)), (.int .i64 (.ofNat 224)), (.int .i64 (.ofNat 227)), (.int .i64 (.ofNat 246)), (.int .i64 (.ofNat 96)), (.int .i64 (.ofNat 97)), (.int .i64 (.ofNat 98)), (.int .i64 (.ofNat 108)), (.int .i64 (.ofNat 104)), (.int .i64 (.ofNat 105)), (.int .i64 (.ofNat 106)), (.int .i64 (.ofNat 109)), (.int .i64 (.ofNat 99)), (.int .i64 (.ofNat 103)), (.int .i64 (.ofNat 107)), (.int .i64 (.ofNat 299)), (.int .i64 (.ofNat 256)), (.int .i64 (.ofNat 257)), (.int .i64 (.ofNat 258)), (.int .i64 (.ofNat 284)), (.int .i64 (.ofNat 285)), (.int .i64 (.ofNat 286))], 3⟩)], 2⟩
theorem s128 : SmOK Try.prog 128 S128 := sm_ok (callM_ok ⟨KPick.enter, fun x n h1 h2 w => KPick.pick x n h1 h2 w⟩ (ms := []) trivial (smL_ok (l := []) trivial) envOK mixed 3000 60) (by kernel_rfl)
end Go.Proofs.YtdcnbeiadgedpaaAK.KSse
