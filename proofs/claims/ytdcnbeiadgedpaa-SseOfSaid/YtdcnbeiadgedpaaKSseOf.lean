/- Function 13: whatever its arguments, it returns true. Written by a program of this claim's (genruns.py). -/
import Derived.Test.YtdcnbeiadgedpaaKSseOfr0
import Derived.Test.YtdcnbeiadgedpaaKSseOfr1
import Derived.Test.YtdcnbeiadgedpaaKSseOfr2
import Derived.Test.YtdcnbeiadgedpaaKSseOfr3
import Derived.Test.YtdcnbeiadgedpaaKSseOfr4
import Derived.Test.YtdcnbeiadgedpaaKSseOfr5
import Derived.Test.YtdcnbeiadgedpaaKSseOfr6
import Derived.Test.YtdcnbeiadgedpaaKSseOfr7
import Derived.Test.YtdcnbeiadgedpaaKSseOfr8
import Derived.Test.YtdcnbeiadgedpaaKSseOfr9
import Derived.Test.YtdcnbeiadgedpaaKSseOfr10
import Derived.Test.YtdcnbeiadgedpaaKSseOfro
namespace Go.Proofs.YtdcnbeiadgedpaaAK.KSse.KSseOf
open Go.Proofs Go.Proofs.YtdcnbeiadgedpaaAK Go.Proofs.YtdcnbeiadgedpaaAK.KSse
set_option maxRecDepth 100000
theorem all0 : ∀ k, 136 ≤ k → k < 263 → (good (call 13 [.int .i64 (.ofNat k)] .e 0)) = true := by
  intro k h0 h1
  rcases Nat.lt_or_ge k 138 with h | h
  · exact all1_ok r136 k (by omega) (by omega)
  rcases Nat.lt_or_ge k 140 with h | h
  · exact all1_ok r138 k (by omega) (by omega)
  rcases Nat.lt_or_ge k 142 with h | h
  · exact all1_ok r140 k (by omega) (by omega)
  rcases Nat.lt_or_ge k 144 with h | h
  · exact all1_ok r142 k (by omega) (by omega)
  rcases Nat.lt_or_ge k 146 with h | h
  · exact all1_ok r144 k (by omega) (by omega)
  rcases Nat.lt_or_ge k 148 with h | h
  · exact all1_ok r146 k (by omega) (by omega)
  rcases Nat.lt_or_ge k 150 with h | h
  · exact all1_ok r148 k (by omega) (by omega)
  rcases Nat.lt_or_ge k 152 with h | h
  · exact all1_ok r150 k (by omega) (by omega)
  rcases Nat.lt_or_ge k 154 with h | h
  · exact all1_ok r152 k (by omega) (by omega)
  rcases Nat.lt_or_ge k 156 with h | h
  · exact all1_ok r154 k (by omega) (by omega)
  rcases Nat.lt_or_ge k 158 with h | h
  · exact all1_ok r156 k (by omega) (by omega)
  rcases Nat.lt_or_ge k 160 with h | h
  · exact all1_ok r158 k (by omega) (by omega)
  rcases Nat.lt_or_ge k 162 with h | h
  · exact all1_ok r160 k (by omega) (by omega)
  rcases Nat.lt_or_ge k 164 with h | h
  · exact all1_ok r162 k (by omega) (by omega)
  rcases Nat.lt_or_ge k 166 with h | h
  · exact all1_ok r164 k (by omega) (by omega)
  rcases Nat.lt_or_ge k 168 with h | h
  · exact all1_ok r166 k (by omega) (by omega)
  rcases Nat.lt_or_ge k 170 with h | h
  · exact all1_ok r168 k (by omega) (by omega)
  rcases Nat.lt_or_ge k 172 with h | h
  · exact all1_ok r170 k (by omega) (by omega)
  rcases Nat.lt_or_ge k 174 with h | h
  · exact all1_ok r172 k (by omega) (by omega)
  rcases Nat.lt_or_ge k 176 with h | h
  · exact all1_ok r174 k (by omega) (by omega)
  rcases Nat.lt_or_ge k 178 with h | h
  · exact all1_ok r176 k (by omega) (by omega)
  rcases Nat.lt_or_ge k 180 with h | h
  · exact all1_ok r178 k (by omega) (by omega)
  rcases Nat.lt_or_ge k 182 with h | h
  · exact all1_ok r180 k (by omega) (by omega)
  rcases Nat.lt_or_ge k 184 with h | h
  · exact all1_ok r182 k (by omega) (by omega)
  rcases Nat.lt_or_ge k 186 with h | h
  · exact all1_ok r184 k (by omega) (by omega)
  rcases Nat.lt_or_ge k 188 with h | h
  · exact all1_ok r186 k (by omega) (by omega)
  rcases Nat.lt_or_ge k 190 with h | h
  · exact all1_ok r188 k (by omega) (by omega)
  rcases Nat.lt_or_ge k 192 with h | h
  · exact all1_ok r190 k (by omega) (by omega)
  rcases Nat.lt_or_ge k 194 with h | h
  · exact all1_ok r192 k (by omega) (by omega)
  rcases Nat.lt_or_ge k 196 with h | h
  · exact all1_ok r194 k (by omega) (by omega)
  rcases Nat.lt_or_ge k 198 with h | h
  · exact all1_ok r196 k (by omega) (by omega)
  rcases Nat.lt_or_ge k 200 with h | h
  · exact all1_ok r198 k (by omega) (by omega)
  rcases Nat.lt_or_ge k 202 with h | h
  · exact all1_ok r200 k (by omega) (by omega)
  rcases Nat.lt_or_ge k 204 with h | h
  · exact all1_ok r202 k (by omega) (by omega)
  rcases Nat.lt_or_ge k 206 with h | h
  · exact all1_ok r204 k (by omega) (by omega)
  rcases Nat.lt_or_ge k 208 with h | h
  · exact all1_ok r206 k (by omega) (by omega)
  rcases Nat.lt_or_ge k 210 with h | h
  · exact all1_ok r208 k (by omega) (by omega)
  rcases Nat.lt_or_ge k 212 with h | h
  · exact all1_ok r210 k (by omega) (by omega)
  rcases Nat.lt_or_ge k 214 with h | h
  · exact all1_ok r212 k (by omega) (by omega)
  rcases Nat.lt_or_ge k 216 with h | h
  · exact all1_ok r214 k (by omega) (by omega)
  rcases Nat.lt_or_ge k 218 with h | h
  · exact all1_ok r216 k (by omega) (by omega)
  rcases Nat.lt_or_ge k 220 with h | h
  · exact all1_ok r218 k (by omega) (by omega)
  rcases Nat.lt_or_ge k 222 with h | h
  · exact all1_ok r220 k (by omega) (by omega)
  rcases Nat.lt_or_ge k 224 with h | h
  · exact all1_ok r222 k (by omega) (by omega)
  rcases Nat.lt_or_ge k 226 with h | h
  · exact all1_ok r224 k (by omega) (by omega)
  rcases Nat.lt_or_ge k 228 with h | h
  · exact all1_ok r226 k (by omega) (by omega)
  rcases Nat.lt_or_ge k 230 with h | h
  · exact all1_ok r228 k (by omega) (by omega)
  rcases Nat.lt_or_ge k 232 with h | h
  · exact all1_ok r230 k (by omega) (by omega)
  rcases Nat.lt_or_ge k 234 with h | h
  · exact all1_ok r232 k (by omega) (by omega)
  rcases Nat.lt_or_ge k 236 with h | h
  · exact all1_ok r234 k (by omega) (by omega)
  rcases Nat.lt_or_ge k 238 with h | h
  · exact all1_ok r236 k (by omega) (by omega)
  rcases Nat.lt_or_ge k 240 with h | h
  · exact all1_ok r238 k (by omega) (by omega)
  rcases Nat.lt_or_ge k 242 with h | h
  · exact all1_ok r240 k (by omega) (by omega)
  rcases Nat.lt_or_ge k 244 with h | h
  · exact all1_ok r242 k (by omega) (by omega)
  rcases Nat.lt_or_ge k 246 with h | h
  · exact all1_ok r244 k (by omega) (by omega)
  rcases Nat.lt_or_ge k 248 with h | h
  · exact all1_ok r246 k (by omega) (by omega)
  rcases Nat.lt_or_ge k 250 with h | h
  · exact all1_ok r248 k (by omega) (by omega)
  rcases Nat.lt_or_ge k 252 with h | h
  · exact all1_ok r250 k (by omega) (by omega)
  rcases Nat.lt_or_ge k 254 with h | h
  · exact all1_ok r252 k (by omega) (by omega)
  rcases Nat.lt_or_ge k 256 with h | h
  · exact all1_ok r254 k (by omega) (by omega)
  rcases Nat.lt_or_ge k 258 with h | h
  · exact all1_ok r256 k (by omega) (by omega)
  rcases Nat.lt_or_ge k 260 with h | h
  · exact all1_ok r258 k (by omega) (by omega)
  rcases Nat.lt_or_ge k 262 with h | h
  · exact all1_ok r260 k (by omega) (by omega)
  exact all1_ok r262 k (by omega) (by omega)
theorem walk (a0 : Int) (w0 : (Lit.int .i64 a0).wf = true) (W : World) : Calls Try.prog 13 #[.int .i64 a0] W fun e W' => e = .returned (.bool true) ∧ Go.RowKit.Below W.heap.size W W' := by
  by_cases h0 : (136 : Int) ≤ a0 ∧ a0 ≤ 262
  · obtain ⟨k, rfl⟩ : ∃ k : Nat, a0 = .ofNat k := ⟨a0.toNat, by show a0 = ((a0.toNat : Nat) : Int); omega⟩
    have h2 : (136 : Int) ≤ (k : Int) ∧ (k : Int) ≤ 262 := h0
    exact run_true callOK (all0 k (by omega) (by omega)) W _ (.cons _ _ _ _ (.int _ _) .nil)
  refine run_true callOK off W _ (.cons _ _ _ _ (.num _ _ ?_) .nil)
  intro p hp
  simp only [ranges, List.mem_cons, List.not_mem_nil, or_false] at hp
  rcases hp with rfl
  · exact h0
end Go.Proofs.YtdcnbeiadgedpaaAK.KSse.KSseOf
