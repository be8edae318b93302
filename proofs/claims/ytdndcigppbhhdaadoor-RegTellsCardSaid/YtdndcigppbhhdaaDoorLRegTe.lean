/- The law RegTells: it returns true, whatever the register. Written by a program of this claim's. -/
import Derived.Test.YtdndcigppbhhdaaDoorLRegTer0
import Derived.Test.YtdndcigppbhhdaaDoorLRegTer1
import Derived.Test.YtdndcigppbhhdaaDoorLRegTer2
import Derived.Test.YtdndcigppbhhdaaDoorLRegTer3
import Derived.Test.YtdndcigppbhhdaaDoorLRegTer4
import Derived.Test.YtdndcigppbhhdaaDoorLRegTer5
import Derived.Test.YtdndcigppbhhdaaDoorLRegTer6
namespace Go.Proofs.YtdndcigppbhhdaaDoorAL.LReg.LRegTe
open Go.Proofs Go.Proofs.YtdndcigppbhhdaaDoorAL Go.Proofs.YtdndcigppbhhdaaDoorAL.LReg
set_option maxRecDepth 100000
theorem c0 (j : Nat) (hj : j < 23) : good (call 11 [.agg [ccase 0, ncase j]] .e 0) = true := by
  rcases Nat.lt_or_ge j 8 with h | h
  · exact all1_ok r0_0 j (by omega) (by omega)
  rcases Nat.lt_or_ge j 16 with h | h
  · exact all1_ok r0_8 j (by omega) (by omega)
  exact all1_ok r0_16 j (by omega) (by omega)
theorem c1 (j : Nat) (hj : j < 23) : good (call 11 [.agg [ccase 1, ncase j]] .e 0) = true := by
  rcases Nat.lt_or_ge j 8 with h | h
  · exact all1_ok r1_0 j (by omega) (by omega)
  rcases Nat.lt_or_ge j 16 with h | h
  · exact all1_ok r1_8 j (by omega) (by omega)
  exact all1_ok r1_16 j (by omega) (by omega)
theorem c2 (j : Nat) (hj : j < 23) : good (call 11 [.agg [ccase 2, ncase j]] .e 0) = true := by
  rcases Nat.lt_or_ge j 8 with h | h
  · exact all1_ok r2_0 j (by omega) (by omega)
  rcases Nat.lt_or_ge j 16 with h | h
  · exact all1_ok r2_8 j (by omega) (by omega)
  exact all1_ok r2_16 j (by omega) (by omega)
theorem c3 (j : Nat) (hj : j < 23) : good (call 11 [.agg [ccase 3, ncase j]] .e 0) = true := by
  rcases Nat.lt_or_ge j 8 with h | h
  · exact all1_ok r3_0 j (by omega) (by omega)
  rcases Nat.lt_or_ge j 16 with h | h
  · exact all1_ok r3_8 j (by omega) (by omega)
  exact all1_ok r3_16 j (by omega) (by omega)
theorem c4 (j : Nat) (hj : j < 23) : good (call 11 [.agg [ccase 4, ncase j]] .e 0) = true := by
  rcases Nat.lt_or_ge j 8 with h | h
  · exact all1_ok r4_0 j (by omega) (by omega)
  rcases Nat.lt_or_ge j 16 with h | h
  · exact all1_ok r4_8 j (by omega) (by omega)
  exact all1_ok r4_16 j (by omega) (by omega)
theorem c5 (j : Nat) (hj : j < 23) : good (call 11 [.agg [ccase 5, ncase j]] .e 0) = true := by
  rcases Nat.lt_or_ge j 8 with h | h
  · exact all1_ok r5_0 j (by omega) (by omega)
  rcases Nat.lt_or_ge j 16 with h | h
  · exact all1_ok r5_8 j (by omega) (by omega)
  exact all1_ok r5_16 j (by omega) (by omega)
theorem c6 (j : Nat) (hj : j < 23) : good (call 11 [.agg [ccase 6, ncase j]] .e 0) = true := by
  rcases Nat.lt_or_ge j 8 with h | h
  · exact all1_ok r6_0 j (by omega) (by omega)
  rcases Nat.lt_or_ge j 16 with h | h
  · exact all1_ok r6_8 j (by omega) (by omega)
  exact all1_ok r6_16 j (by omega) (by omega)
theorem c7 (j : Nat) (hj : j < 23) : good (call 11 [.agg [ccase 7, ncase j]] .e 0) = true := by
  rcases Nat.lt_or_ge j 8 with h | h
  · exact all1_ok r7_0 j (by omega) (by omega)
  rcases Nat.lt_or_ge j 16 with h | h
  · exact all1_ok r7_8 j (by omega) (by omega)
  exact all1_ok r7_16 j (by omega) (by omega)
theorem c8 (j : Nat) (hj : j < 23) : good (call 11 [.agg [ccase 8, ncase j]] .e 0) = true := by
  rcases Nat.lt_or_ge j 8 with h | h
  · exact all1_ok r8_0 j (by omega) (by omega)
  rcases Nat.lt_or_ge j 16 with h | h
  · exact all1_ok r8_8 j (by omega) (by omega)
  exact all1_ok r8_16 j (by omega) (by omega)
theorem call_all : ∀ i, i < 9 → ∀ j, j < 23 → good (call 11 [.agg [ccase i, ncase j]] .e 0) = true
  | 0, _, j, hj => c0 j hj
  | 1, _, j, hj => c1 j hj
  | 2, _, j, hj => c2 j hj
  | 3, _, j, hj => c3 j hj
  | 4, _, j, hj => c4 j hj
  | 5, _, j, hj => c5 j hj
  | 6, _, j, hj => c6 j hj
  | 7, _, j, hj => c7 j hj
  | 8, _, j, hj => c8 j hj
  | i + 9, h, _, _ => absurd h (by omega)
theorem walk [Glo] [Tab] (a : Int) (_ : (Lit.int .i64 a).wf = true) (b : Int) (wb : (Lit.int .i64 b).wf = true) (W : World) (hL : Low W) : Calls Tryd.prog 11 #[.agg #[.int .i64 a, .int .i64 b]] W fun e W' => e = .returned (.bool true) ∧ Go.RowKit.Below W.heap.size W W' := by
  obtain ⟨i, hi, ci⟩ := ccase_ok a
  obtain ⟨j, hj, nj⟩ := ncase_ok wb
  exact run_true (callF_ok (ms := []) trivial (smL_ok (l := []) trivial) envOK mixed 3000 60) (call_all i hi j hj) W hL _ (.cons _ _ _ _ (.agg _ _ (.cons _ _ _ _ (ci _) (.cons _ _ _ _ (nj _) .nil))) .nil)
end Go.Proofs.YtdndcigppbhhdaaDoorAL.LReg.LRegTe
