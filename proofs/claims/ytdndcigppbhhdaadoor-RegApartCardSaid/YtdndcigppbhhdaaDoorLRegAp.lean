/- The law RegApart: it returns true, whatever the registers and the class. Written by a program of this claim's. -/
import Derived.Test.YtdndcigppbhhdaaDoorLRegApr0
import Derived.Test.YtdndcigppbhhdaaDoorLRegApr1
import Derived.Test.YtdndcigppbhhdaaDoorLRegApr2
import Derived.Test.YtdndcigppbhhdaaDoorLRegApr3
import Derived.Test.YtdndcigppbhhdaaDoorLRegApr4
import Derived.Test.YtdndcigppbhhdaaDoorLRegApr5
import Derived.Test.YtdndcigppbhhdaaDoorLRegApr6
import Derived.Test.YtdndcigppbhhdaaDoorLRegApr7
import Derived.Test.YtdndcigppbhhdaaDoorLRegApr8
import Derived.Test.YtdndcigppbhhdaaDoorLRegApr9
import Derived.Test.YtdndcigppbhhdaaDoorLRegApr10
import Derived.Test.YtdndcigppbhhdaaDoorLRegApr11
import Derived.Test.YtdndcigppbhhdaaDoorLRegApr12
import Derived.Test.YtdndcigppbhhdaaDoorLRegApri
namespace Go.Proofs.YtdndcigppbhhdaaDoorAL.LReg.LRegAp
open Go.Proofs Go.Proofs.YtdndcigppbhhdaaDoorAL Go.Proofs.YtdndcigppbhhdaaDoorAL.LReg
set_option maxRecDepth 100000
theorem g0 : ∀ j, j < 19 → good2 0 j = true
  | 0, _ => r0_0
  | 1, _ => r0_1
  | 2, _ => r0_2
  | 3, _ => r0_3
  | 4, _ => r0_4
  | 5, _ => r0_5
  | 6, _ => r0_6
  | 7, _ => r0_7
  | 8, _ => r0_8
  | 9, _ => r0_9
  | 10, _ => r0_10
  | 11, _ => r0_11
  | 12, _ => r0_12
  | 13, _ => r0_13
  | 14, _ => r0_14
  | 15, _ => r0_15
  | 16, _ => r0_16
  | 17, _ => r0_17
  | 18, _ => r0_18
  | j + 19, h => absurd h (by omega)
theorem g1 : ∀ j, j < 19 → good2 1 j = true
  | 0, _ => r1_0
  | 1, _ => r1_1
  | 2, _ => r1_2
  | 3, _ => r1_3
  | 4, _ => r1_4
  | 5, _ => r1_5
  | 6, _ => r1_6
  | 7, _ => r1_7
  | 8, _ => r1_8
  | 9, _ => r1_9
  | 10, _ => r1_10
  | 11, _ => r1_11
  | 12, _ => r1_12
  | 13, _ => r1_13
  | 14, _ => r1_14
  | 15, _ => r1_15
  | 16, _ => r1_16
  | 17, _ => r1_17
  | 18, _ => r1_18
  | j + 19, h => absurd h (by omega)
theorem g2 : ∀ j, j < 19 → good2 2 j = true
  | 0, _ => r2_0
  | 1, _ => r2_1
  | 2, _ => r2_2
  | 3, _ => r2_3
  | 4, _ => r2_4
  | 5, _ => r2_5
  | 6, _ => r2_6
  | 7, _ => r2_7
  | 8, _ => r2_8
  | 9, _ => r2_9
  | 10, _ => r2_10
  | 11, _ => r2_11
  | 12, _ => r2_12
  | 13, _ => r2_13
  | 14, _ => r2_14
  | 15, _ => r2_15
  | 16, _ => r2_16
  | 17, _ => r2_17
  | 18, _ => r2_18
  | j + 19, h => absurd h (by omega)
theorem g3 : ∀ j, j < 19 → good2 3 j = true
  | 0, _ => r3_0
  | 1, _ => r3_1
  | 2, _ => r3_2
  | 3, _ => r3_3
  | 4, _ => r3_4
  | 5, _ => r3_5
  | 6, _ => r3_6
  | 7, _ => r3_7
  | 8, _ => r3_8
  | 9, _ => r3_9
  | 10, _ => r3_10
  | 11, _ => r3_11
  | 12, _ => r3_12
  | 13, _ => r3_13
  | 14, _ => r3_14
  | 15, _ => r3_15
  | 16, _ => r3_16
  | 17, _ => r3_17
  | 18, _ => r3_18
  | j + 19, h => absurd h (by omega)
theorem g4 : ∀ j, j < 19 → good2 4 j = true
  | 0, _ => r4_0
  | 1, _ => r4_1
  | 2, _ => r4_2
  | 3, _ => r4_3
  | 4, _ => r4_4
  | 5, _ => r4_5
  | 6, _ => r4_6
  | 7, _ => r4_7
  | 8, _ => r4_8
  | 9, _ => r4_9
  | 10, _ => r4_10
  | 11, _ => r4_11
  | 12, _ => r4_12
  | 13, _ => r4_13
  | 14, _ => r4_14
  | 15, _ => r4_15
  | 16, _ => r4_16
  | 17, _ => r4_17
  | 18, _ => r4_18
  | j + 19, h => absurd h (by omega)
theorem g5 : ∀ j, j < 19 → good2 5 j = true
  | 0, _ => r5_0
  | 1, _ => r5_1
  | 2, _ => r5_2
  | 3, _ => r5_3
  | 4, _ => r5_4
  | 5, _ => r5_5
  | 6, _ => r5_6
  | 7, _ => r5_7
  | 8, _ => r5_8
  | 9, _ => r5_9
  | 10, _ => r5_10
  | 11, _ => r5_11
  | 12, _ => r5_12
  | 13, _ => r5_13
  | 14, _ => r5_14
  | 15, _ => r5_15
  | 16, _ => r5_16
  | 17, _ => r5_17
  | 18, _ => r5_18
  | j + 19, h => absurd h (by omega)
theorem g6 : ∀ j, j < 19 → good2 6 j = true
  | 0, _ => r6_0
  | 1, _ => r6_1
  | 2, _ => r6_2
  | 3, _ => r6_3
  | 4, _ => r6_4
  | 5, _ => r6_5
  | 6, _ => r6_6
  | 7, _ => r6_7
  | 8, _ => r6_8
  | 9, _ => r6_9
  | 10, _ => r6_10
  | 11, _ => r6_11
  | 12, _ => r6_12
  | 13, _ => r6_13
  | 14, _ => r6_14
  | 15, _ => r6_15
  | 16, _ => r6_16
  | 17, _ => r6_17
  | 18, _ => r6_18
  | j + 19, h => absurd h (by omega)
theorem g7 : ∀ j, j < 19 → good2 7 j = true
  | 0, _ => r7_0
  | 1, _ => r7_1
  | 2, _ => r7_2
  | 3, _ => r7_3
  | 4, _ => r7_4
  | 5, _ => r7_5
  | 6, _ => r7_6
  | 7, _ => r7_7
  | 8, _ => r7_8
  | 9, _ => r7_9
  | 10, _ => r7_10
  | 11, _ => r7_11
  | 12, _ => r7_12
  | 13, _ => r7_13
  | 14, _ => r7_14
  | 15, _ => r7_15
  | 16, _ => r7_16
  | 17, _ => r7_17
  | 18, _ => r7_18
  | j + 19, h => absurd h (by omega)
theorem g8 : ∀ j, j < 19 → good2 8 j = true
  | 0, _ => r8_0
  | 1, _ => r8_1
  | 2, _ => r8_2
  | 3, _ => r8_3
  | 4, _ => r8_4
  | 5, _ => r8_5
  | 6, _ => r8_6
  | 7, _ => r8_7
  | 8, _ => r8_8
  | 9, _ => r8_9
  | 10, _ => r8_10
  | 11, _ => r8_11
  | 12, _ => r8_12
  | 13, _ => r8_13
  | 14, _ => r8_14
  | 15, _ => r8_15
  | 16, _ => r8_16
  | 17, _ => r8_17
  | 18, _ => r8_18
  | j + 19, h => absurd h (by omega)
theorem good_all : ∀ i, i < 9 → ∀ j, j < 19 → good2 i j = true
  | 0, _, j, hj => g0 j hj
  | 1, _, j, hj => g1 j hj
  | 2, _, j, hj => g2 j hj
  | 3, _, j, hj => g3 j hj
  | 4, _, j, hj => g4 j hj
  | 5, _, j, hj => g5 j hj
  | 6, _, j, hj => g6 j hj
  | 7, _, j, hj => g7 j hj
  | 8, _, j, hj => g8 j hj
  | i + 9, h, _, _ => absurd h (by omega)
theorem walk [Glo] [Tab] (a : Int) (_ : (Lit.int .i64 a).wf = true) (b : Int) (wb : (Lit.int .i64 b).wf = true) (c : Int) (wc : (Lit.int .i64 c).wf = true) (d : Int) (wd : (Lit.int .i64 d).wf = true) (x : Int) (wx : (Lit.int .i64 x).wf = true) (W : World) (hL : Low W) :
    Calls Tryd.prog 5 #[.agg #[.int .i64 a, .int .i64 b], .agg #[.int .i64 c, .int .i64 d], .int .i64 x] W fun e W' => e = .returned (.bool true) ∧ Go.RowKit.Below W.heap.size W W' := by
  obtain ⟨i, hi, ci⟩ := ccase_ok a
  obtain ⟨j, hj, nj⟩ := ncase_ok wb
  have g := good_all i hi j hj
  unfold good2 at g
  split at g
  · obtain ⟨k, hk, ck⟩ := ccase_ok c
    obtain ⟨l, hl, nl⟩ := ncase_ok wd
    have e1 : Nat.div (19 * k + l) 19 = k := by show (19 * k + l) / 19 = k; omega
    have e2 : Nat.mod (19 * k + l) 19 = l := by show (19 * k + l) % 19 = l; omega
    have h := all1_ok (f := fun m => chk (arg i j) (arg (Nat.div m 19) (Nat.mod m 19))) g (19 * k + l) (Nat.zero_le _) (by omega)
    simp only [e1, e2] at h
    exact fin_true Tryd.func5 hb hr (Nat.le_of_ble_eq_true (by kernel_rfl)) (fin_case _ _ h) W hL _ (.cons _ _ _ _ (.agg _ _ (.cons _ _ _ _ (ci _) (.cons _ _ _ _ (nj _) .nil))) (.cons _ _ _ _ (.agg _ _ (.cons _ _ _ _ (ck _) (.cons _ _ _ _ (nl _) .nil))) (.cons _ _ _ _ (any_ok wx _) .nil)))
  · exact fin_true Tryd.func5 hb hr (Nat.le_of_ble_eq_true (by kernel_rfl)) (fin_case _ _ g) W hL _ (.cons _ _ _ _ (.agg _ _ (.cons _ _ _ _ (ci _) (.cons _ _ _ _ (nj _) .nil))) (.cons _ _ _ _ (.agg _ _ (.cons _ _ _ _ (any_ok wc _) (.cons _ _ _ _ (any_ok wd _) .nil))) (.cons _ _ _ _ (any_ok wx _) .nil)))
end Go.Proofs.YtdndcigppbhhdaaDoorAL.LReg.LRegAp
