/- The law RegTells: a register's class and its number, each told by its case. Written by a program of this claim's. -/
import Derived.Test.YtdndcigppbhhdaaDoorLFields
import Derived.Test.YtdndcigppbhhdaaDoorLReg
namespace Go.Proofs.YtdndcigppbhhdaaDoorAL.LReg.LRegTe
open Go.Proofs Go.Proofs.YtdndcigppbhhdaaDoorAL Go.Proofs.YtdndcigppbhhdaaDoorAL.LReg
set_option maxRecDepth 100000
noncomputable def call : CallF := callF [] (smL []) (envL env) 3000 60
noncomputable def ccase (i : Nat) : AV := match Nat.blt i 8 with
  | true => .int .i64 (Int.ofNat (i + 1))
  | false => .num (.off [(.ofNat 1, .ofNat 8)])
noncomputable def ncase (j : Nat) : AV := match Nat.blt j 20 with
  | true => .int .i64 (Int.ofNat j)
  | false => match Nat.beq j 20 with
    | true => .num (.iv (.negSucc 9223372036854775807) (.negSucc 9223372036854775804))
    | false => match Nat.beq j 21 with
      | true => .num (.iv (.negSucc 9223372036854775803) (.negSucc 0))
      | false => .num (.iv (.ofNat 20) (.ofNat 9223372036854775807))
theorem range {a : Int} (h : (Lit.int .i64 a).wf = true) : -9223372036854775808 ≤ a ∧ a ≤ 9223372036854775807 := by
  obtain ⟨_, _, ok⟩ := pk_ok 1 (by decide) h
  exact ok.2.2
theorem ccase_ok (a : Int) : ∃ i, i < 9 ∧ ∀ ρ, VR ρ (ccase i) (.int .i64 a) := by
  by_cases h : 1 ≤ a ∧ a ≤ 8
  · obtain ⟨k, rfl⟩ : ∃ k : Nat, a = .ofNat k := ⟨a.toNat, by show a = ((a.toNat : Nat) : Int); omega⟩
    have h2 : (1 : Int) ≤ (k : Int) ∧ (k : Int) ≤ 8 := h
    obtain ⟨i, rfl⟩ : ∃ i, k = i + 1 := ⟨k - 1, by omega⟩
    refine ⟨i, by omega, fun ρ => ?_⟩
    have hi : Nat.blt i 8 = true := by rw [Nat.blt_eq]; omega
    unfold ccase
    rw [hi]
    exact .int _ _
  · refine ⟨8, by omega, fun ρ => .num _ _ fun p hp => ?_⟩
    simp only [List.mem_cons, List.not_mem_nil, or_false] at hp
    subst hp
    exact h
theorem ncase_ok {b : Int} (hb : (Lit.int .i64 b).wf = true) : ∃ j, j < 23 ∧ ∀ ρ, VR ρ (ncase j) (.int .i64 b) := by
  obtain ⟨h1, h2⟩ := range hb
  by_cases h : 0 ≤ b ∧ b ≤ 19
  · obtain ⟨k, rfl⟩ : ∃ k : Nat, b = .ofNat k := ⟨b.toNat, by show b = ((b.toNat : Nat) : Int); omega⟩
    have h3 : (0 : Int) ≤ (k : Int) ∧ (k : Int) ≤ 19 := h
    refine ⟨k, by omega, fun ρ => ?_⟩
    have hk : Nat.blt k 20 = true := by rw [Nat.blt_eq]; omega
    unfold ncase
    rw [hk]
    exact .int _ _
  · by_cases h3 : b ≤ -9223372036854775805
    · exact ⟨20, by omega, fun ρ => .num (.iv (.negSucc 9223372036854775807) (.negSucc 9223372036854775804)) _ ⟨by omega, by omega, h1, h2⟩⟩
    · by_cases h4 : b < 0
      · exact ⟨21, by omega, fun ρ => .num (.iv (.negSucc 9223372036854775803) (.negSucc 0)) _ ⟨by omega, by omega, h1, h2⟩⟩
      · exact ⟨22, by omega, fun ρ => .num (.iv (.ofNat 20) (.ofNat 9223372036854775807)) _ ⟨by show (20 : Int) ≤ b; omega, by show b ≤ (9223372036854775807 : Int); omega, h1, h2⟩⟩
end Go.Proofs.YtdndcigppbhhdaaDoorAL.LReg.LRegTe
