/- Function 8: whatever its arguments, it returns true. Written by a program of this claim's (genruns.py). -/
import Derived.Test.YtdcnbeiadgedpaaKUnaOfr0
import Derived.Test.YtdcnbeiadgedpaaKUnaOfr1
import Derived.Test.YtdcnbeiadgedpaaKUnaOfr2
import Derived.Test.YtdcnbeiadgedpaaKUnaOfr3
import Derived.Test.YtdcnbeiadgedpaaKUnaOfro
namespace Go.Proofs.YtdcnbeiadgedpaaAK.KUna.KUnaOf
open Go.Proofs Go.Proofs.YtdcnbeiadgedpaaAK Go.Proofs.YtdcnbeiadgedpaaAK.KUna
set_option maxRecDepth 100000
theorem all0 : ∀ k, 16 ≤ k → k < 48 → (good (call 8 [.int .i64 (.ofNat k)] .e 0)) = true := by
  intro k h0 h1
  rcases Nat.lt_or_ge k 17 with h | h
  · exact all1_ok r16 k (by omega) (by omega)
  rcases Nat.lt_or_ge k 18 with h | h
  · exact all1_ok r17 k (by omega) (by omega)
  rcases Nat.lt_or_ge k 19 with h | h
  · exact all1_ok r18 k (by omega) (by omega)
  rcases Nat.lt_or_ge k 20 with h | h
  · exact all1_ok r19 k (by omega) (by omega)
  rcases Nat.lt_or_ge k 21 with h | h
  · exact all1_ok r20 k (by omega) (by omega)
  rcases Nat.lt_or_ge k 22 with h | h
  · exact all1_ok r21 k (by omega) (by omega)
  rcases Nat.lt_or_ge k 23 with h | h
  · exact all1_ok r22 k (by omega) (by omega)
  rcases Nat.lt_or_ge k 24 with h | h
  · exact all1_ok r23 k (by omega) (by omega)
  rcases Nat.lt_or_ge k 25 with h | h
  · exact all1_ok r24 k (by omega) (by omega)
  rcases Nat.lt_or_ge k 26 with h | h
  · exact all1_ok r25 k (by omega) (by omega)
  rcases Nat.lt_or_ge k 27 with h | h
  · exact all1_ok r26 k (by omega) (by omega)
  rcases Nat.lt_or_ge k 28 with h | h
  · exact all1_ok r27 k (by omega) (by omega)
  rcases Nat.lt_or_ge k 29 with h | h
  · exact all1_ok r28 k (by omega) (by omega)
  rcases Nat.lt_or_ge k 30 with h | h
  · exact all1_ok r29 k (by omega) (by omega)
  rcases Nat.lt_or_ge k 31 with h | h
  · exact all1_ok r30 k (by omega) (by omega)
  rcases Nat.lt_or_ge k 32 with h | h
  · exact all1_ok r31 k (by omega) (by omega)
  rcases Nat.lt_or_ge k 33 with h | h
  · exact all1_ok r32 k (by omega) (by omega)
  rcases Nat.lt_or_ge k 34 with h | h
  · exact all1_ok r33 k (by omega) (by omega)
  rcases Nat.lt_or_ge k 35 with h | h
  · exact all1_ok r34 k (by omega) (by omega)
  rcases Nat.lt_or_ge k 36 with h | h
  · exact all1_ok r35 k (by omega) (by omega)
  rcases Nat.lt_or_ge k 37 with h | h
  · exact all1_ok r36 k (by omega) (by omega)
  rcases Nat.lt_or_ge k 38 with h | h
  · exact all1_ok r37 k (by omega) (by omega)
  rcases Nat.lt_or_ge k 39 with h | h
  · exact all1_ok r38 k (by omega) (by omega)
  rcases Nat.lt_or_ge k 40 with h | h
  · exact all1_ok r39 k (by omega) (by omega)
  rcases Nat.lt_or_ge k 41 with h | h
  · exact all1_ok r40 k (by omega) (by omega)
  rcases Nat.lt_or_ge k 42 with h | h
  · exact all1_ok r41 k (by omega) (by omega)
  rcases Nat.lt_or_ge k 43 with h | h
  · exact all1_ok r42 k (by omega) (by omega)
  rcases Nat.lt_or_ge k 44 with h | h
  · exact all1_ok r43 k (by omega) (by omega)
  rcases Nat.lt_or_ge k 45 with h | h
  · exact all1_ok r44 k (by omega) (by omega)
  rcases Nat.lt_or_ge k 46 with h | h
  · exact all1_ok r45 k (by omega) (by omega)
  rcases Nat.lt_or_ge k 47 with h | h
  · exact all1_ok r46 k (by omega) (by omega)
  exact all1_ok r47 k (by omega) (by omega)
theorem walk (a0 : Int) (w0 : (Lit.int .i64 a0).wf = true) (W : World) : Calls Try.prog 8 #[.int .i64 a0] W fun e W' => e = .returned (.bool true) ∧ Go.RowKit.Below W.heap.size W W' := by
  by_cases h0 : (16 : Int) ≤ a0 ∧ a0 ≤ 47
  · obtain ⟨k, rfl⟩ : ∃ k : Nat, a0 = .ofNat k := ⟨a0.toNat, by show a0 = ((a0.toNat : Nat) : Int); omega⟩
    have h2 : (16 : Int) ≤ (k : Int) ∧ (k : Int) ≤ 47 := h0
    exact run_true callOK (all0 k (by omega) (by omega)) W _ (.cons _ _ _ _ (.int _ _) .nil)
  refine run_true callOK off W _ (.cons _ _ _ _ (.num _ _ ?_) .nil)
  intro p hp
  simp only [ranges, List.mem_cons, List.not_mem_nil, or_false] at hp
  rcases hp with rfl
  · exact h0
end Go.Proofs.YtdcnbeiadgedpaaAK.KUna.KUnaOf
