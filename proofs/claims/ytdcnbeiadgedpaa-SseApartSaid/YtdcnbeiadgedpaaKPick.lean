/-
  The kit's Pick: the class of a number by a divisor.
-/
import Derived.Test.YtdcnbeiadgedpaaProg
import Derived.Tactics
import Derived.Tactics2
import Derived.StillTactics
namespace Go.Proofs.YtdcnbeiadgedpaaAK.KPick
open Go.Proofs
theorem tmod_pos {x n : Int} (hn : 1 ≤ n) (h : 0 ≤ x.tmod n) : x.tmod n = x % n := by
  have h1 := Int.tmod_eq_emod (a := x) (b := n)
  have h2 := Int.emod_lt_of_pos x (show 0 < n by omega)
  split at h1 <;> omega
theorem tmod_neg {x n : Int} (hn : 1 ≤ n) (h : x.tmod n < 0) : x.tmod n + n = x % n := by
  have h1 := Int.tmod_eq_emod (a := x) (b := n)
  have h2 := Int.emod_nonneg x (show n ≠ 0 by omega)
  split at h1 <;> omega
theorem pick (x n : Int) (hn : 1 ≤ n) (hn2 : n ≤ 1000000) (w : World) :
    Calls Try.prog 26 #[.int .i64 x, .int .i64 n] w fun e w' => e = .returned (.int .i64 (x % n)) ∧ w' = w := by
  have h1 : ¬ n < 1 := by omega
  have h0 : n ≠ 0 := by omega
  go_enter Try.func26, Try.ntmps26
  go_wp2
  · have e := tmod_neg hn (by assumption)
    have h3 := Int.emod_nonneg x h0
    have h4 := Int.emod_lt_of_pos x (show 0 < n by omega)
    rw [e]
    have e2 : (x % n + 9223372036854775808) % 18446744073709551616 - 9223372036854775808 = x % n := by omega
    rw [e2]
    go_ret
    exact ⟨rfl, rfl⟩
  · have e := tmod_pos hn (by assumption)
    rw [e]
    go_ret
    exact ⟨rfl, rfl⟩
theorem enter (x n : Int) (w : World) : (callFunc 26 #[.int .i64 x, .int .i64 n]).run Try.prog w = .ok (.enter 26 #[.int .i64 x, .int .i64 n]) w := by
  simp only [callFunc, Sem.run_bind, run_program, Result.andThen_ok, Try.func26]
  rfl
end Go.Proofs.YtdcnbeiadgedpaaAK.KPick
