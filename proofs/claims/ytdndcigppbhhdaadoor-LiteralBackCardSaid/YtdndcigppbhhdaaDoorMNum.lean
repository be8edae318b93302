/-
  A number's digits at a base, as bytes: that base 10's are the kit's Itoa, base 16's what formatBits lays. No program in sight.
-/
import Derived.Test.YtdndcigppbhhdaaDoorMHex
import Derived.Lib.ItoaNum
namespace Go.Proofs.YtdndcigppbhhdaaDoorMNum
open Go.Proofs Go.RowKit Go.Proofs.YtdndcigppbhhdaaDoorMHex
/-- A list of bytes as a text. -/
def B (l : List UInt8) : ByteArray := ⟨l.toArray⟩
theorem B_append (l m : List UInt8) : B l ++ B m = B (l ++ m) := by
  apply ByteArray.ext
  simp [B, ByteArray.data_append]
theorem B_size (l : List UInt8) : (B l).size = l.length := by simp [B, ByteArray.size]
theorem B_list (s : ByteArray) : B s.data.toList = s := by
  apply ByteArray.ext
  simp [B]
theorem toList_B (l : List UInt8) : (B l).toList = l := by
  rw [ByteArray.toList_eq]
  simp [B]
/-- A digit's letter. -/
def dU (d : Nat) : UInt8 := UInt8.ofNat (if d < 10 then 48 + d else 87 + d)
/-- The digits of u at base b (at most f of them). -/
def bdig (b : Nat) : Nat → Nat → List UInt8
  | 0, _ => []
  | f + 1, u => if u < b then [dU u] else bdig b f (u / b) ++ [dU (u % b)]
theorem bdig_len (b : Nat) : ∀ (f u : Nat), (bdig b f u).length ≤ f
  | 0, _ => by simp [bdig]
  | f + 1, u => by
    rw [bdig]
    split
    · simp
    · have := bdig_len b f (u / b)
      simp; omega
theorem div_lt {b u f : Nat} (h : u < b ^ (f + 1)) : u / b < b ^ f := by
  rw [Nat.pow_succ] at h
  exact Nat.div_lt_of_lt_mul (by rwa [Nat.mul_comm])
theorem dec_bdig : ∀ (f u : Nat), u < 10 ^ (f + 1) → Lib.decDigits u = bdig 10 (f + 1) u
  | 0, u, h => by
    rw [Lib.decDigits, dif_pos (by omega), bdig, if_pos (by omega), dU, if_pos (by omega)]
  | f + 1, u, h => by
    rw [Lib.decDigits, bdig]
    by_cases c : u < 10
    · rw [dif_pos c, if_pos c, dU, if_pos c]
    · rw [dif_neg c, if_neg c, dec_bdig f (u / 10) (div_lt h), dU, if_pos (by omega)]
theorem dg_dU (d : Nat) : UInt8.ofNat (dg d).toNat = dU d := by
  unfold dg dU
  split <;> congr 1 <;> omega
theorem hx_bdig : ∀ (f u : Nat) (ds : List Int), u < 16 ^ (f + 1) → (hx (f + 1) u ds).map (fun n => UInt8.ofNat n.toNat) = bdig 16 (f + 1) u ++ ds.map (fun n => UInt8.ofNat n.toNat)
  | 0, u, ds, h => by
    rw [hx, if_pos (by omega), bdig, if_pos (by omega)]
    simp [dg_dU]
  | f + 1, u, ds, h => by
    rw [hx, bdig]
    by_cases c : u < 16
    · rw [if_pos c, if_pos c]
      simp [dg_dU]
    · rw [if_neg c, if_neg c, hx_bdig f (u / 16) _ (div_lt h)]
      simp [dg_dU]
theorem strOfNums_hx (u : Nat) (h : u < 18446744073709551616) : strOfNums (hx 16 u []) = B (bdig 16 16 u) := by
  have := hx_bdig 15 u [] (by simpa using h)
  unfold strOfNums B
  rw [this]
  simp
theorem dec_B (u : Nat) (h : u < 18446744073709551616) : Lib.decDigits u = bdig 10 20 u := dec_bdig 19 u (Nat.lt_trans h (by decide))
theorem hexB_neg (n : Int) (h : n < 0) (h0 : -9223372036854775808 ≤ n) : hexB n = B ([45, 48, 120] ++ bdig 16 16 n.natAbs) := by
  unfold hexB
  rw [if_pos h, show (-n).toNat = n.natAbs by omega, strOfNums_hx _ (by omega), ← B_append]
  rfl
theorem hexB_nonneg (n : Int) (h : ¬ n < 0) (h0 : n ≤ 9223372036854775807) : hexB n = B ([48, 120] ++ bdig 16 16 n.natAbs) := by
  unfold hexB
  rw [if_neg h, show n.toNat = n.natAbs by omega, strOfNums_hx _ (by omega), ← B_append]
  rfl
theorem itoa_neg (n : Int) (h : n < 0) (h0 : -9223372036854775808 ≤ n) : Lib.itoa n = [45] ++ bdig 10 20 n.natAbs := by
  unfold Lib.itoa
  rw [if_pos h, dec_B _ (by omega)]
  rfl
theorem itoa_nonneg (n : Int) (h : ¬ n < 0) (h0 : n ≤ 9223372036854775807) : Lib.itoa n = bdig 10 20 n.natAbs := by
  unfold Lib.itoa
  rw [if_neg h, show n.toNat = n.natAbs by omega, dec_B _ (by omega)]
end Go.Proofs.YtdndcigppbhhdaaDoorMNum
