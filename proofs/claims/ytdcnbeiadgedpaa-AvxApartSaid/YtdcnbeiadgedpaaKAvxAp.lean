/- Function 6: whatever its arguments, it returns true. Written by a program of this claim's (genapart.py). -/
import Derived.Test.YtdcnbeiadgedpaaKAvxApr0
import Derived.Test.YtdcnbeiadgedpaaKAvxApr1
import Derived.Test.YtdcnbeiadgedpaaKAvxApr2
import Derived.Test.YtdcnbeiadgedpaaKAvxApr3
import Derived.Test.YtdcnbeiadgedpaaKAvxApr4
import Derived.Test.YtdcnbeiadgedpaaKAvxApr5
import Derived.Test.YtdcnbeiadgedpaaKAvxApr6
import Derived.Test.YtdcnbeiadgedpaaKAvxApr7
namespace Go.Proofs.YtdcnbeiadgedpaaAK.KAvx.KAvxAp
open Go.Proofs Go.Proofs.YtdcnbeiadgedpaaAK Go.Proofs.YtdcnbeiadgedpaaAK.KAvx
set_option maxRecDepth 100000
theorem rows : ∀ k, k < 122 → one k = true := by
  intro k h1
  rcases Nat.lt_or_ge k 60 with h | h
  · rcases Nat.lt_or_ge k 30 with h | h
    · rcases Nat.lt_or_ge k 14 with h | h
      · rcases Nat.lt_or_ge k 6 with h | h
        · rcases Nat.lt_or_ge k 2 with h | h
          · exact all1_ok r0 k (by omega) (by omega)
          rcases Nat.lt_or_ge k 4 with h | h
          · exact all1_ok r2 k (by omega) (by omega)
          exact all1_ok r4 k (by omega) (by omega)
        rcases Nat.lt_or_ge k 10 with h | h
        · rcases Nat.lt_or_ge k 8 with h | h
          · exact all1_ok r6 k (by omega) (by omega)
          exact all1_ok r8 k (by omega) (by omega)
        rcases Nat.lt_or_ge k 12 with h | h
        · exact all1_ok r10 k (by omega) (by omega)
        exact all1_ok r12 k (by omega) (by omega)
      rcases Nat.lt_or_ge k 22 with h | h
      · rcases Nat.lt_or_ge k 18 with h | h
        · rcases Nat.lt_or_ge k 16 with h | h
          · exact all1_ok r14 k (by omega) (by omega)
          exact all1_ok r16 k (by omega) (by omega)
        rcases Nat.lt_or_ge k 20 with h | h
        · exact all1_ok r18 k (by omega) (by omega)
        exact all1_ok r20 k (by omega) (by omega)
      rcases Nat.lt_or_ge k 26 with h | h
      · rcases Nat.lt_or_ge k 24 with h | h
        · exact all1_ok r22 k (by omega) (by omega)
        exact all1_ok r24 k (by omega) (by omega)
      rcases Nat.lt_or_ge k 28 with h | h
      · exact all1_ok r26 k (by omega) (by omega)
      exact all1_ok r28 k (by omega) (by omega)
    rcases Nat.lt_or_ge k 44 with h | h
    · rcases Nat.lt_or_ge k 36 with h | h
      · rcases Nat.lt_or_ge k 32 with h | h
        · exact all1_ok r30 k (by omega) (by omega)
        rcases Nat.lt_or_ge k 34 with h | h
        · exact all1_ok r32 k (by omega) (by omega)
        exact all1_ok r34 k (by omega) (by omega)
      rcases Nat.lt_or_ge k 40 with h | h
      · rcases Nat.lt_or_ge k 38 with h | h
        · exact all1_ok r36 k (by omega) (by omega)
        exact all1_ok r38 k (by omega) (by omega)
      rcases Nat.lt_or_ge k 42 with h | h
      · exact all1_ok r40 k (by omega) (by omega)
      exact all1_ok r42 k (by omega) (by omega)
    rcases Nat.lt_or_ge k 52 with h | h
    · rcases Nat.lt_or_ge k 48 with h | h
      · rcases Nat.lt_or_ge k 46 with h | h
        · exact all1_ok r44 k (by omega) (by omega)
        exact all1_ok r46 k (by omega) (by omega)
      rcases Nat.lt_or_ge k 50 with h | h
      · exact all1_ok r48 k (by omega) (by omega)
      exact all1_ok r50 k (by omega) (by omega)
    rcases Nat.lt_or_ge k 56 with h | h
    · rcases Nat.lt_or_ge k 54 with h | h
      · exact all1_ok r52 k (by omega) (by omega)
      exact all1_ok r54 k (by omega) (by omega)
    rcases Nat.lt_or_ge k 58 with h | h
    · exact all1_ok r56 k (by omega) (by omega)
    exact all1_ok r58 k (by omega) (by omega)
  rcases Nat.lt_or_ge k 90 with h | h
  · rcases Nat.lt_or_ge k 74 with h | h
    · rcases Nat.lt_or_ge k 66 with h | h
      · rcases Nat.lt_or_ge k 62 with h | h
        · exact all1_ok r60 k (by omega) (by omega)
        rcases Nat.lt_or_ge k 64 with h | h
        · exact all1_ok r62 k (by omega) (by omega)
        exact all1_ok r64 k (by omega) (by omega)
      rcases Nat.lt_or_ge k 70 with h | h
      · rcases Nat.lt_or_ge k 68 with h | h
        · exact all1_ok r66 k (by omega) (by omega)
        exact all1_ok r68 k (by omega) (by omega)
      rcases Nat.lt_or_ge k 72 with h | h
      · exact all1_ok r70 k (by omega) (by omega)
      exact all1_ok r72 k (by omega) (by omega)
    rcases Nat.lt_or_ge k 82 with h | h
    · rcases Nat.lt_or_ge k 78 with h | h
      · rcases Nat.lt_or_ge k 76 with h | h
        · exact all1_ok r74 k (by omega) (by omega)
        exact all1_ok r76 k (by omega) (by omega)
      rcases Nat.lt_or_ge k 80 with h | h
      · exact all1_ok r78 k (by omega) (by omega)
      exact all1_ok r80 k (by omega) (by omega)
    rcases Nat.lt_or_ge k 86 with h | h
    · rcases Nat.lt_or_ge k 84 with h | h
      · exact all1_ok r82 k (by omega) (by omega)
      exact all1_ok r84 k (by omega) (by omega)
    rcases Nat.lt_or_ge k 88 with h | h
    · exact all1_ok r86 k (by omega) (by omega)
    exact all1_ok r88 k (by omega) (by omega)
  rcases Nat.lt_or_ge k 106 with h | h
  · rcases Nat.lt_or_ge k 98 with h | h
    · rcases Nat.lt_or_ge k 94 with h | h
      · rcases Nat.lt_or_ge k 92 with h | h
        · exact all1_ok r90 k (by omega) (by omega)
        exact all1_ok r92 k (by omega) (by omega)
      rcases Nat.lt_or_ge k 96 with h | h
      · exact all1_ok r94 k (by omega) (by omega)
      exact all1_ok r96 k (by omega) (by omega)
    rcases Nat.lt_or_ge k 102 with h | h
    · rcases Nat.lt_or_ge k 100 with h | h
      · exact all1_ok r98 k (by omega) (by omega)
      exact all1_ok r100 k (by omega) (by omega)
    rcases Nat.lt_or_ge k 104 with h | h
    · exact all1_ok r102 k (by omega) (by omega)
    exact all1_ok r104 k (by omega) (by omega)
  rcases Nat.lt_or_ge k 114 with h | h
  · rcases Nat.lt_or_ge k 110 with h | h
    · rcases Nat.lt_or_ge k 108 with h | h
      · exact all1_ok r106 k (by omega) (by omega)
      exact all1_ok r108 k (by omega) (by omega)
    rcases Nat.lt_or_ge k 112 with h | h
    · exact all1_ok r110 k (by omega) (by omega)
    exact all1_ok r112 k (by omega) (by omega)
  rcases Nat.lt_or_ge k 118 with h | h
  · rcases Nat.lt_or_ge k 116 with h | h
    · exact all1_ok r114 k (by omega) (by omega)
    exact all1_ok r116 k (by omega) (by omega)
  rcases Nat.lt_or_ge k 120 with h | h
  · exact all1_ok r118 k (by omega) (by omega)
  exact all1_ok r120 k (by omega) (by omega)
theorem fin : Fin Try.prog Try.f6.ntmps ars body ⟨argsT [.num (.pk 1 0), .num (.pk 1 0)] 0 .e, .e, 0⟩ := by
  rw [parts]
  refine fin_seq t0 (fin_seq t1 (fin_seq t2 (fin_seq t3 (?_))))
  refine fin_cls 0 122 (by decide) (by kernel_rfl) fun k hk => ?_
  refine fin_cls 1 122 (by decide) ?_ fun j hj => ?_
  · show (s3.st.tm.put 0 _).get 1 = _
    rw [T.get_put, if_neg (by decide)]
    kernel_rfl
  · exact fin_end callOK mixed 3000 cr (s := st k j) (all1_ok (f := fun j => chkF ars (exec call 3000 ar (st k j))) (rows k hk) j (Nat.zero_le j) (by omega))
theorem walk (a0 : Int) (w0 : (Lit.int .i64 a0).wf = true) (a1 : Int) (w1 : (Lit.int .i64 a1).wf = true) (W : World) : Calls Try.prog 6 #[.int .i64 a0, .int .i64 a1] W fun e W' => e = .returned (.bool true) ∧ Go.RowKit.Below W.heap.size W W' :=
  fin_true Try.func6 hb hr (Nat.le_of_ble_eq_true (by kernel_rfl)) fin W _ (.cons _ _ _ _ (any_ok w0 _) (.cons _ _ _ _ (any_ok w1 _) .nil))
end Go.Proofs.YtdcnbeiadgedpaaAK.KAvx.KAvxAp
