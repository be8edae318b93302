/- Function 4: whatever its arguments, it returns true. Written by a program of this claim's (genruns.py). -/
import Derived.Test.YtdcnbeiadgedpaaKAvxOfr0
import Derived.Test.YtdcnbeiadgedpaaKAvxOfr1
import Derived.Test.YtdcnbeiadgedpaaKAvxOfr2
import Derived.Test.YtdcnbeiadgedpaaKAvxOfr3
import Derived.Test.YtdcnbeiadgedpaaKAvxOfr4
import Derived.Test.YtdcnbeiadgedpaaKAvxOfr5
import Derived.Test.YtdcnbeiadgedpaaKAvxOfr6
import Derived.Test.YtdcnbeiadgedpaaKAvxOfr7
import Derived.Test.YtdcnbeiadgedpaaKAvxOfro
namespace Go.Proofs.YtdcnbeiadgedpaaAK.KAvx.KAvxOf
open Go.Proofs Go.Proofs.YtdcnbeiadgedpaaAK Go.Proofs.YtdcnbeiadgedpaaAK.KAvx
set_option maxRecDepth 100000
theorem all0 : ∀ k, 263 ≤ k → k < 323 → (good (call 4 [.int .i64 (.ofNat k)] .e 0)) = true := by
  intro k h0 h1
  rcases Nat.lt_or_ge k 265 with h | h
  · exact all1_ok r263 k (by omega) (by omega)
  rcases Nat.lt_or_ge k 267 with h | h
  · exact all1_ok r265 k (by omega) (by omega)
  rcases Nat.lt_or_ge k 269 with h | h
  · exact all1_ok r267 k (by omega) (by omega)
  rcases Nat.lt_or_ge k 271 with h | h
  · exact all1_ok r269 k (by omega) (by omega)
  rcases Nat.lt_or_ge k 273 with h | h
  · exact all1_ok r271 k (by omega) (by omega)
  rcases Nat.lt_or_ge k 275 with h | h
  · exact all1_ok r273 k (by omega) (by omega)
  rcases Nat.lt_or_ge k 277 with h | h
  · exact all1_ok r275 k (by omega) (by omega)
  rcases Nat.lt_or_ge k 279 with h | h
  · exact all1_ok r277 k (by omega) (by omega)
  rcases Nat.lt_or_ge k 281 with h | h
  · exact all1_ok r279 k (by omega) (by omega)
  rcases Nat.lt_or_ge k 283 with h | h
  · exact all1_ok r281 k (by omega) (by omega)
  rcases Nat.lt_or_ge k 285 with h | h
  · exact all1_ok r283 k (by omega) (by omega)
  rcases Nat.lt_or_ge k 287 with h | h
  · exact all1_ok r285 k (by omega) (by omega)
  rcases Nat.lt_or_ge k 289 with h | h
  · exact all1_ok r287 k (by omega) (by omega)
  rcases Nat.lt_or_ge k 291 with h | h
  · exact all1_ok r289 k (by omega) (by omega)
  rcases Nat.lt_or_ge k 293 with h | h
  · exact all1_ok r291 k (by omega) (by omega)
  rcases Nat.lt_or_ge k 295 with h | h
  · exact all1_ok r293 k (by omega) (by omega)
  rcases Nat.lt_or_ge k 297 with h | h
  · exact all1_ok r295 k (by omega) (by omega)
  rcases Nat.lt_or_ge k 299 with h | h
  · exact all1_ok r297 k (by omega) (by omega)
  rcases Nat.lt_or_ge k 301 with h | h
  · exact all1_ok r299 k (by omega) (by omega)
  rcases Nat.lt_or_ge k 303 with h | h
  · exact all1_ok r301 k (by omega) (by omega)
  rcases Nat.lt_or_ge k 305 with h | h
  · exact all1_ok r303 k (by omega) (by omega)
  rcases Nat.lt_or_ge k 307 with h | h
  · exact all1_ok r305 k (by omega) (by omega)
  rcases Nat.lt_or_ge k 309 with h | h
  · exact all1_ok r307 k (by omega) (by omega)
  rcases Nat.lt_or_ge k 311 with h | h
  · exact all1_ok r309 k (by omega) (by omega)
  rcases Nat.lt_or_ge k 313 with h | h
  · exact all1_ok r311 k (by omega) (by omega)
  rcases Nat.lt_or_ge k 315 with h | h
  · exact all1_ok r313 k (by omega) (by omega)
  rcases Nat.lt_or_ge k 317 with h | h
  · exact all1_ok r315 k (by omega) (by omega)
  rcases Nat.lt_or_ge k 319 with h | h
  · exact all1_ok r317 k (by omega) (by omega)
  rcases Nat.lt_or_ge k 321 with h | h
  · exact all1_ok r319 k (by omega) (by omega)
  exact all1_ok r321 k (by omega) (by omega)
theorem walk (a0 : Int) (w0 : (Lit.int .i64 a0).wf = true) (W : World) : Calls Try.prog 4 #[.int .i64 a0] W fun e W' => e = .returned (.bool true) ∧ Go.RowKit.Below W.heap.size W W' := by
  by_cases h0 : (263 : Int) ≤ a0 ∧ a0 ≤ 322
  · obtain ⟨k, rfl⟩ : ∃ k : Nat, a0 = .ofNat k := ⟨a0.toNat, by show a0 = ((a0.toNat : Nat) : Int); omega⟩
    have h2 : (263 : Int) ≤ (k : Int) ∧ (k : Int) ≤ 322 := h0
    exact run_true callOK (all0 k (by omega) (by omega)) W _ (.cons _ _ _ _ (.int _ _) .nil)
  refine run_true callOK off W _ (.cons _ _ _ _ (.num _ _ ?_) .nil)
  intro p hp
  simp only [ranges, List.mem_cons, List.not_mem_nil, or_false] at hp
  rcases hp with rfl
  · exact h0
end Go.Proofs.YtdcnbeiadgedpaaAK.KAvx.KAvxOf
