/-
  LiteralTells, the plain law: any number's texts (at base 16 and at base 10) are told as the document says; of what the machine's side computes (the printed functions), for every number.
-/
import Derived.Test.YtdndcigppbhhdaaDoorQLiteralTellsx1
import Derived.Test.YtdndcigppbhhdaaDoorMNum
namespace Go.Proofs.YtdndcigppbhhdaaDoor.Pure
open Go.RowKit Go.Proofs.YtdndcigppbhhdaaDoor.QLiteralTells Go.Proofs.YtdndcigppbhhdaaDoorW.PrintWords Go.Proofs.YtdndcigppbhhdaaDoorW.PrintLast Go.Proofs.YtdndcigppbhhdaaDoorW.PrintMore Go.Proofs.YtdndcigppbhhdaaDoorMNum
namespace LTell
theorem cut16 (d : Nat) (h : d < 16) : (⟨#[48, 49, 50, 51, 52, 53, 54, 55, 56, 57, 97, 98, 99, 100, 101, 102]⟩ : ByteArray).extract d (d + 1) = B [dU d] := by
  have : ∀ d : _root_.Fin 16, ((⟨#[48, 49, 50, 51, 52, 53, 54, 55, 56, 57, 97, 98, 99, 100, 101, 102]⟩ : ByteArray).extract d.val (d.val + 1)).data.toList = [dU d.val] := by decide +kernel
  rw [← B_list (ByteArray.extract _ _ _), this ⟨d, h⟩]
/-- A round of tell's loop: what stands where the loop goes on. -/
theorem go_on (b u : Nat) (hb : 2 ≤ b) (hb2 : b ≤ 16) (hu : u < 18446744073709551616) (s : List UInt8) (hs : s.length ≤ 1000) (A : ByteArray → Int → Option ByteArray) (r : Option ByteArray) (h : A (B (dU (u % b) :: s)) ((u / b : Nat) : Int) = r) :
    (if (b : Int) = 0 then (none) else (if 0 ≤ (Int.tmod (u : Int) (b : Int)) then (if (Int.tmod (u : Int) (b : Int)) ≤ (IntKind.u64.wrap ((Int.tmod (u : Int) (b : Int)) + 1)) then (if (IntKind.u64.wrap ((Int.tmod (u : Int) (b : Int)) + 1)) ≤ 16 then (if ((⟨#[48, 49, 50, 51, 52, 53, 54, 55, 56, 57, 97, 98, 99, 100, 101, 102]⟩ : ByteArray).extract ((Int.tmod (u : Int) (b : Int)) : Int).toNat ((IntKind.u64.wrap ((Int.tmod (u : Int) (b : Int)) + 1)) : Int).toNat).size + (B s).size ≤ 9223372036854775807 then A (((⟨#[48, 49, 50, 51, 52, 53, 54, 55, 56, 57, 97, 98, 99, 100, 101, 102]⟩ : ByteArray).extract ((Int.tmod (u : Int) (b : Int)) : Int).toNat ((IntKind.u64.wrap ((Int.tmod (u : Int) (b : Int)) + 1)) : Int).toNat) ++ B s) (IntKind.u64.wrap (Int.tdiv (u : Int) (b : Int))) else (none)) else (none)) else (none)) else (none))) = r := by
  have hm : u % b < b := Nat.mod_lt _ (by omega)
  have e1 : Int.tmod (u : Int) (b : Int) = ((u % b : Nat) : Int) := by simp [Int.tmod_eq_emod_of_nonneg]
  have e2 : Int.tdiv (u : Int) (b : Int) = ((u / b : Nat) : Int) := by simp [Int.tdiv_eq_ediv_of_nonneg]
  have hd : u / b ≤ u := Nat.div_le_self _ _
  generalize u % b = m at *
  generalize u / b = q at *
  have e3 : IntKind.u64.wrap ((m : Int) + 1) = ((m + 1 : Nat) : Int) := by rw [IntKind.wrap_u64]; omega
  have e4 : IntKind.u64.wrap (q : Int) = (q : Int) := by rw [IntKind.wrap_u64]; omega
  have h1 := B_size [dU m]
  have h2 := B_size s
  simp only [List.length_cons, List.length_nil] at h1
  rw [e1, e2, e3, e4, Int.toNat_natCast, Int.toNat_natCast, cut16 _ (by omega), if_neg (by omega), if_pos (by omega), if_pos (by omega), if_pos (by omega), if_pos (by omega), B_append]
  exact h
theorem tell_loop (b : Nat) (hb : 2 ≤ b) (hb2 : b ≤ 16) (x2 x8 : ByteArray) (h2 : x2.size ≤ 10) (h8 : x8.size ≤ 10) : ∀ (f u k : Nat) (s : List UInt8), u < 18446744073709551616 → u < b ^ f → f + s.length ≤ 1000 → f + 2 ≤ k → (u = 0 → s ≠ []) →
    linotyperef02_tell.l0 k (b : Int) x2 (u : Int) x8 (B s) = some ((x8 ++ x2) ++ B (if u = 0 then s else bdig b f u ++ s)) := by
  intro f
  induction f with
  | zero =>
    intro u k s h0 hu hs hk hz
    obtain ⟨k, rfl⟩ : ∃ m, k = m + 1 := ⟨k - 1, by omega⟩
    obtain rfl : u = 0 := by simpa using hu
    have hB := B_size s
    have hA := ByteArray.size_append (a := x8) (b := x2)
    simp only [linotyperef02_tell.l0]
    rw [if_neg (by decide), toList_B, if_neg (hz rfl), if_pos (by omega), if_pos (by omega)]
    simp only [if_true]
  | succ f ih =>
    intro u k s h0 hu hs hk hz
    obtain ⟨k, rfl⟩ : ∃ m, k = m + 1 := ⟨k - 1, by omega⟩
    by_cases c : u = 0
    · subst c
      have hB := B_size s
      have hA := ByteArray.size_append (a := x8) (b := x2)
      simp only [linotyperef02_tell.l0]
      rw [if_neg (by decide), toList_B, if_neg (hz rfl), if_pos (by omega), if_pos (by omega)]
      simp only [if_true]
    · simp only [linotyperef02_tell.l0]
      rw [if_pos (by omega), if_neg c]
      refine go_on b u hb hb2 h0 s (by omega) (fun x y => linotyperef02_tell.l0 k (b : Int) x2 y x8 x) _ ?_
      have hd : u / b ≤ u := Nat.div_le_self _ _
      rw [ih (u / b) k (dU (u % b) :: s) (by omega) (div_lt hu) (by simp only [List.length_cons]; omega) (by omega) (fun _ => by simp)]
      by_cases c2 : u < b
      · rw [if_pos (Nat.div_eq_of_lt c2), bdig, if_pos c2, Nat.mod_eq_of_lt c2]
        rfl
      · rw [if_neg (by have := Nat.div_pos (Nat.le_of_not_lt c2) (by omega : 0 < b); omega), bdig, if_neg c2]
        simp
theorem tell_first (b : Nat) (hb : 2 ≤ b) (hb2 : b ≤ 16) (x2 x8 : ByteArray) (h2 : x2.size ≤ 10) (h8 : x8.size ≤ 10) (f u k : Nat) (h0 : u < 18446744073709551616) (hu : u < b ^ (f + 1)) (hf : f ≤ 900) (hk : f + 6 ≤ k) :
    linotyperef02_tell.j0 k (b : Int) x2 (u : Int) x8 = some ((x8 ++ x2) ++ B (bdig b (f + 1) u)) := by
  obtain ⟨k, rfl⟩ : ∃ m, k = m + 2 := ⟨k - 2, by omega⟩
  simp only [linotyperef02_tell.j0]
  by_cases c : u = 0
  · subst c
    have hg := go_on b 0 hb hb2 h0 [] (by simp) (fun x y => linotyperef02_tell.l0 k (b : Int) x2 y x8 x) (some ((x8 ++ x2) ++ B [dU 0])) (by
      have := tell_loop b hb hb2 x2 x8 h2 h8 0 0 k [dU 0] (by decide) (by simp) (by simp) (by omega) (fun _ => by simp)
      rw [if_pos rfl] at this
      simpa using this)
    have hb0 : bdig b (f + 1) 0 = [dU 0] := by rw [bdig, if_pos (by omega)]
    simp only [linotyperef02_tell.l0]
    rw [if_neg (by decide), show (⟨#[]⟩ : ByteArray) = B [] from rfl, toList_B, if_pos rfl, hb0]
    exact hg
  · have := tell_loop b hb hb2 x2 x8 h2 h8 (f + 1) u (k + 1) [] h0 hu (show f + 1 + ([] : List UInt8).length ≤ 1000 by rw [List.length_nil]; omega) (by omega) (fun h => absurd h c)
    rw [if_neg c, List.append_nil] at this
    exact this
theorem u64n {n : Int} (h : n < 0) (h0 : -9223372036854775808 ≤ n) : IntKind.u64.wrap (-(IntKind.u64.wrap n)) = ((n.natAbs : Nat) : Int) := by rw [IntKind.wrap_u64, IntKind.wrap_u64]; omega
theorem u64p {n : Int} (h : ¬ n < 0) (h0 : n ≤ 9223372036854775807) : IntKind.u64.wrap n = ((n.natAbs : Nat) : Int) := by rw [IntKind.wrap_u64]; omega
theorem tellF (b f : Nat) (hb : 2 ≤ b) (hb2 : b ≤ 16) (hf : 18446744073709551616 ≤ b ^ (f + 1)) (hf9 : f ≤ 90) (x2 : ByteArray) (h2 : x2.size ≤ 10) (n : Int) (h0 : -9223372036854775808 ≤ n) (h1 : n ≤ 9223372036854775807) :
    linotyperef02_tell.f 100 n (b : Int) x2 = some (((if n < 0 then (⟨#[45]⟩ : ByteArray) else ⟨#[]⟩) ++ x2) ++ B (bdig b (f + 1) n.natAbs)) := by
  unfold linotyperef02_tell.f
  by_cases c : n < 0
  · rw [if_pos c, if_pos c, u64n c h0]
    exact tell_first b hb hb2 x2 _ h2 (by decide) f _ 100 (by omega) (by omega) (by omega) (by omega)
  · rw [if_neg c, if_neg c, u64p c h1]
    exact tell_first b hb hb2 x2 _ h2 (by decide) f _ 100 (by omega) (by omega) (by omega) (by omega)
theorem b1 : (⟨#[45]⟩ : ByteArray) = B [45] := rfl
theorem b2 : (⟨#[48, 120]⟩ : ByteArray) = B [48, 120] := rfl
theorem b0 : (⟨#[]⟩ : ByteArray) = B [] := rfl
theorem refHex (n : Int) (h0 : -9223372036854775808 ≤ n) (h1 : n ≤ 9223372036854775807) : linotyperef02_Hex.f 100 n = some (Go.Proofs.YtdndcigppbhhdaaDoorMHex.hexB n) := by
  unfold linotyperef02_Hex.f
  have := tellF 16 15 (by decide) (by decide) (by decide) (by decide) (⟨#[48, 120]⟩ : ByteArray) (by decide) n h0 h1
  rw [show ((16 : Nat) : Int) = 16 from rfl] at this
  rw [this, Option.bind_some]
  by_cases c : n < 0
  · rw [if_pos c, hexB_neg n c h0, b1, b2, B_append, B_append]; rfl
  · rw [if_neg c, hexB_nonneg n c h1, b0, b2, B_append, B_append]; rfl
theorem refDec (n : Int) (h0 : -9223372036854775808 ≤ n) (h1 : n ≤ 9223372036854775807) : linotyperef02_Dec.f 100 n = some (B (Lib.itoa n)) := by
  unfold linotyperef02_Dec.f
  have := tellF 10 19 (by decide) (by decide) (by decide) (by decide) (⟨#[]⟩ : ByteArray) (by decide) n h0 h1
  rw [show ((10 : Nat) : Int) = 10 from rfl] at this
  rw [this, Option.bind_some]
  by_cases c : n < 0
  · rw [if_pos c, itoa_neg n c h0, b1, b0, B_append, B_append]; rfl
  · rw [if_neg c, itoa_nonneg n c h1, b0, B_append, B_append]; rfl
end LTell
open LTell in
theorem LiteralTells : linotypelaw02_LiteralTells.Pure := by
  intro n hw
  have hI : Go.Proofs.YtdndcigppbhhdaaDoorMDec.InI n := by
    simp [Lit.wf] at hw
    have e1 : IntKind.i64.min = -9223372036854775808 := rfl
    have e2 : IntKind.i64.max = 9223372036854775807 := rfl
    exact ⟨by omega, by omega⟩
  refine ⟨100, ?_⟩
  unfold linotypelaw02_LiteralTells.f literal_Hex.f literal_Dec.f
  rw [if_pos hI, if_pos hI, refHex n hI.1 hI.2, refDec n hI.1 hI.2]
  simp only [Option.bind_some]
  rw [if_true]
  rw [if_pos (show ByteArray.toList ⟨(Lib.itoa n).toArray⟩ = (B (Lib.itoa n)).toList from rfl)]
  rfl
end Go.Proofs.YtdndcigppbhhdaaDoor.Pure
