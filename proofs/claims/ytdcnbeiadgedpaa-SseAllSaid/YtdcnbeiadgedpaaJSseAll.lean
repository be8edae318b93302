/- Function 16: whatever its arguments, it returns true. Written by a program of this claim's (genruns.py). -/
import Derived.Test.YtdcnbeiadgedpaaJSseAllr0
import Derived.Test.YtdcnbeiadgedpaaJSseAllr1
import Derived.Test.YtdcnbeiadgedpaaJSseAllr2
import Derived.Test.YtdcnbeiadgedpaaJSseAllr3
namespace Go.Proofs.YtdcnbeiadgedpaaAJ.JSse.JSseAll
open Go.Proofs Go.Proofs.YtdcnbeiadgedpaaAJ Go.Proofs.YtdcnbeiadgedpaaAJ.JSse
set_option maxRecDepth 100000
theorem all0 : ∀ k, 0 ≤ k → k < 127 → (good (call 16 [.num (.pk 127 k)] .e 0)) = true := by
  intro k h0 h1
  rcases Nat.lt_or_ge k 4 with h | h
  · exact all1_ok r0 k (by omega) (by omega)
  rcases Nat.lt_or_ge k 8 with h | h
  · exact all1_ok r4 k (by omega) (by omega)
  rcases Nat.lt_or_ge k 12 with h | h
  · exact all1_ok r8 k (by omega) (by omega)
  rcases Nat.lt_or_ge k 16 with h | h
  · exact all1_ok r12 k (by omega) (by omega)
  rcases Nat.lt_or_ge k 20 with h | h
  · exact all1_ok r16 k (by omega) (by omega)
  rcases Nat.lt_or_ge k 24 with h | h
  · exact all1_ok r20 k (by omega) (by omega)
  rcases Nat.lt_or_ge k 28 with h | h
  · exact all1_ok r24 k (by omega) (by omega)
  rcases Nat.lt_or_ge k 32 with h | h
  · exact all1_ok r28 k (by omega) (by omega)
  rcases Nat.lt_or_ge k 36 with h | h
  · exact all1_ok r32 k (by omega) (by omega)
  rcases Nat.lt_or_ge k 40 with h | h
  · exact all1_ok r36 k (by omega) (by omega)
  rcases Nat.lt_or_ge k 44 with h | h
  · exact all1_ok r40 k (by omega) (by omega)
  rcases Nat.lt_or_ge k 48 with h | h
  · exact all1_ok r44 k (by omega) (by omega)
  rcases Nat.lt_or_ge k 52 with h | h
  · exact all1_ok r48 k (by omega) (by omega)
  rcases Nat.lt_or_ge k 56 with h | h
  · exact all1_ok r52 k (by omega) (by omega)
  rcases Nat.lt_or_ge k 60 with h | h
  · exact all1_ok r56 k (by omega) (by omega)
  rcases Nat.lt_or_ge k 64 with h | h
  · exact all1_ok r60 k (by omega) (by omega)
  rcases Nat.lt_or_ge k 68 with h | h
  · exact all1_ok r64 k (by omega) (by omega)
  rcases Nat.lt_or_ge k 72 with h | h
  · exact all1_ok r68 k (by omega) (by omega)
  rcases Nat.lt_or_ge k 76 with h | h
  · exact all1_ok r72 k (by omega) (by omega)
  rcases Nat.lt_or_ge k 80 with h | h
  · exact all1_ok r76 k (by omega) (by omega)
  rcases Nat.lt_or_ge k 84 with h | h
  · exact all1_ok r80 k (by omega) (by omega)
  rcases Nat.lt_or_ge k 88 with h | h
  · exact all1_ok r84 k (by omega) (by omega)
  rcases Nat.lt_or_ge k 92 with h | h
  · exact all1_ok r88 k (by omega) (by omega)
  rcases Nat.lt_or_ge k 96 with h | h
  · exact all1_ok r92 k (by omega) (by omega)
  rcases Nat.lt_or_ge k 100 with h | h
  · exact all1_ok r96 k (by omega) (by omega)
  rcases Nat.lt_or_ge k 104 with h | h
  · exact all1_ok r100 k (by omega) (by omega)
  rcases Nat.lt_or_ge k 108 with h | h
  · exact all1_ok r104 k (by omega) (by omega)
  rcases Nat.lt_or_ge k 112 with h | h
  · exact all1_ok r108 k (by omega) (by omega)
  rcases Nat.lt_or_ge k 116 with h | h
  · exact all1_ok r112 k (by omega) (by omega)
  rcases Nat.lt_or_ge k 120 with h | h
  · exact all1_ok r116 k (by omega) (by omega)
  rcases Nat.lt_or_ge k 124 with h | h
  · exact all1_ok r120 k (by omega) (by omega)
  exact all1_ok r124 k (by omega) (by omega)
theorem walk (a0 : Int) (w0 : (Lit.int .i64 a0).wf = true) (W : World) : Calls Try.prog 16 #[.int .i64 a0] W fun e W' => e = .returned (.bool true) ∧ Go.RowKit.Below W.heap.size W W' := by
  obtain ⟨k, hk, ok⟩ := pk_ok 127 (by decide) w0
  exact run_true callOK (all0 k (Nat.zero_le k) hk) W _ (.cons _ _ _ _ (.num _ _ ok) .nil)
end Go.Proofs.YtdcnbeiadgedpaaAJ.JSse.JSseAll
