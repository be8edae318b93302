/- Function 9: whatever its arguments, it returns true. Written by a program of this claim's (genruns.py). -/
import Derived.Test.YtdcnbeiadgedpaaKUnaShr0
import Derived.Test.YtdcnbeiadgedpaaKUnaShr1
import Derived.Test.YtdcnbeiadgedpaaKUnaShr2
import Derived.Test.YtdcnbeiadgedpaaKUnaShr3
namespace Go.Proofs.YtdcnbeiadgedpaaAK.KUna.KUnaSh
open Go.Proofs Go.Proofs.YtdcnbeiadgedpaaAK Go.Proofs.YtdcnbeiadgedpaaAK.KUna
set_option maxRecDepth 100000
theorem all0 : ∀ k, 0 ≤ k → k < 49 → (good (call 9 [.num (.pk 7 (Nat.div k 7)), .num (.pk 7 (Nat.mod k 7))] .e 0)) = true := by
  intro k h0 h1
  rcases Nat.lt_or_ge k 1 with h | h
  · exact all1_ok r0 k (by omega) (by omega)
  rcases Nat.lt_or_ge k 2 with h | h
  · exact all1_ok r1 k (by omega) (by omega)
  rcases Nat.lt_or_ge k 3 with h | h
  · exact all1_ok r2 k (by omega) (by omega)
  rcases Nat.lt_or_ge k 4 with h | h
  · exact all1_ok r3 k (by omega) (by omega)
  rcases Nat.lt_or_ge k 5 with h | h
  · exact all1_ok r4 k (by omega) (by omega)
  rcases Nat.lt_or_ge k 6 with h | h
  · exact all1_ok r5 k (by omega) (by omega)
  rcases Nat.lt_or_ge k 7 with h | h
  · exact all1_ok r6 k (by omega) (by omega)
  rcases Nat.lt_or_ge k 8 with h | h
  · exact all1_ok r7 k (by omega) (by omega)
  rcases Nat.lt_or_ge k 9 with h | h
  · exact all1_ok r8 k (by omega) (by omega)
  rcases Nat.lt_or_ge k 10 with h | h
  · exact all1_ok r9 k (by omega) (by omega)
  rcases Nat.lt_or_ge k 11 with h | h
  · exact all1_ok r10 k (by omega) (by omega)
  rcases Nat.lt_or_ge k 12 with h | h
  · exact all1_ok r11 k (by omega) (by omega)
  rcases Nat.lt_or_ge k 13 with h | h
  · exact all1_ok r12 k (by omega) (by omega)
  rcases Nat.lt_or_ge k 14 with h | h
  · exact all1_ok r13 k (by omega) (by omega)
  rcases Nat.lt_or_ge k 15 with h | h
  · exact all1_ok r14 k (by omega) (by omega)
  rcases Nat.lt_or_ge k 16 with h | h
  · exact all1_ok r15 k (by omega) (by omega)
  rcases Nat.lt_or_ge k 17 with h | h
  · exact all1_ok r16 k (by omega) (by omega)
  rcases Nat.lt_or_ge k 18 with h | h
  · exact all1_ok r17 k (by omega) (by omega)
  rcases Nat.lt_or_ge k 19 with h | h
  · exact all1_ok r18 k (by omega) (by omega)
  rcases Nat.lt_or_ge k 20 with h | h
  · exact all1_ok r19 k (by omega) (by omega)
  rcases Nat.lt_or_ge k 21 with h | h
  · exact all1_ok r20 k (by omega) (by omega)
  rcases Nat.lt_or_ge k 22 with h | h
  · exact all1_ok r21 k (by omega) (by omega)
  rcases Nat.lt_or_ge k 23 with h | h
  · exact all1_ok r22 k (by omega) (by omega)
  rcases Nat.lt_or_ge k 24 with h | h
  · exact all1_ok r23 k (by omega) (by omega)
  rcases Nat.lt_or_ge k 25 with h | h
  · exact all1_ok r24 k (by omega) (by omega)
  rcases Nat.lt_or_ge k 26 with h | h
  · exact all1_ok r25 k (by omega) (by omega)
  rcases Nat.lt_or_ge k 27 with h | h
  · exact all1_ok r26 k (by omega) (by omega)
  rcases Nat.lt_or_ge k 28 with h | h
  · exact all1_ok r27 k (by omega) (by omega)
  rcases Nat.lt_or_ge k 29 with h | h
  · exact all1_ok r28 k (by omega) (by omega)
  rcases Nat.lt_or_ge k 30 with h | h
  · exact all1_ok r29 k (by omega) (by omega)
  rcases Nat.lt_or_ge k 31 with h | h
  · exact all1_ok r30 k (by omega) (by omega)
  rcases Nat.lt_or_ge k 32 with h | h
  · exact all1_ok r31 k (by omega) (by omega)
  rcases Nat.lt_or_ge k 33 with h | h
  · exact all1_ok r32 k (by omega) (by omega)
  rcases Nat.lt_or_ge k 34 with h | h
  · exact all1_ok r33 k (by omega) (by omega)
  rcases Nat.lt_or_ge k 35 with h | h
  · exact all1_ok r34 k (by omega) (by omega)
  rcases Nat.lt_or_ge k 36 with h | h
  · exact all1_ok r35 k (by omega) (by omega)
  rcases Nat.lt_or_ge k 37 with h | h
  · exact all1_ok r36 k (by omega) (by omega)
  rcases Nat.lt_or_ge k 38 with h | h
  · exact all1_ok r37 k (by omega) (by omega)
  rcases Nat.lt_or_ge k 39 with h | h
  · exact all1_ok r38 k (by omega) (by omega)
  rcases Nat.lt_or_ge k 40 with h | h
  · exact all1_ok r39 k (by omega) (by omega)
  rcases Nat.lt_or_ge k 41 with h | h
  · exact all1_ok r40 k (by omega) (by omega)
  rcases Nat.lt_or_ge k 42 with h | h
  · exact all1_ok r41 k (by omega) (by omega)
  rcases Nat.lt_or_ge k 43 with h | h
  · exact all1_ok r42 k (by omega) (by omega)
  rcases Nat.lt_or_ge k 44 with h | h
  · exact all1_ok r43 k (by omega) (by omega)
  rcases Nat.lt_or_ge k 45 with h | h
  · exact all1_ok r44 k (by omega) (by omega)
  rcases Nat.lt_or_ge k 46 with h | h
  · exact all1_ok r45 k (by omega) (by omega)
  rcases Nat.lt_or_ge k 47 with h | h
  · exact all1_ok r46 k (by omega) (by omega)
  rcases Nat.lt_or_ge k 48 with h | h
  · exact all1_ok r47 k (by omega) (by omega)
  exact all1_ok r48 k (by omega) (by omega)
theorem walk (a0 : Int) (w0 : (Lit.int .i64 a0).wf = true) (a1 : Int) (w1 : (Lit.int .i64 a1).wf = true) (W : World) : Calls Try.prog 9 #[.int .i64 a0, .int .i64 a1] W fun e W' => e = .returned (.bool true) ∧ Go.RowKit.Below W.heap.size W W' := by
  obtain ⟨k, hk, ok⟩ := pk_ok 7 (by decide) w0
  obtain ⟨j, hj, oj⟩ := pk_ok 7 (by decide) w1
  have e1 : Nat.div (7 * k + j) 7 = k := by show (7 * k + j) / 7 = k; omega
  have e2 : Nat.mod (7 * k + j) 7 = j := by show (7 * k + j) % 7 = j; omega
  have h := all0 (7 * k + j) (Nat.zero_le _) (by omega)
  rw [e1, e2] at h
  exact run_true callOK h W _ (.cons _ _ _ _ (.num _ _ ok) (.cons _ _ _ _ (.num _ _ oj) .nil))
end Go.Proofs.YtdcnbeiadgedpaaAK.KUna.KUnaSh
