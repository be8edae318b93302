import Derived.Test.YtdndcigppbhhdaaDoorMWord
namespace Go.Proofs.YtdndcigppbhhdaaDoorMWord
open Go.Proofs Go.RowKit Go.Proofs.YtdndcigppbhhdaaDoorW.PrintWords Go.Proofs.YtdndcigppbhhdaaDoorW.PrintMore
set_option linter.unusedVariables false
set_option linter.unusedSimpArgs false
/-- A digit's value; 99: it is none. -/
def valN (c : Nat) : Nat := if 48 ≤ c ∧ c ≤ 57 then c - 48 else if 97 ≤ (c ||| 32) ∧ (c ||| 32) ≤ 102 then (c ||| 32) - 97 + 10 else 99
theorem digit (c : Nat) (b : Bool) (hb : decide (48 ≤ c ∧ c ≤ 57) = b) (w : World) : Calls Tryd.prog 49 #[.int .u8 c] w fun e w' => e = .returned (.bool b) ∧ w = w' := by
  subst hb
  by_cases c1 : 48 ≤ c
  · have d1 : decide ((48 : Int) ≤ (c : Int)) = true := decide_eq_true (by omega)
    by_cases c2 : c ≤ 57
    · have d2 : decide ((c : Int) ≤ 57) = true := decide_eq_true (by omega)
      rw [decide_eq_true (⟨c1, c2⟩ : 48 ≤ c ∧ c ≤ 57)]
      clear c1 c2
      go_enter Tryd.func49, Tryd.ntmps49
      go_wp2
      go_ret
      exact ⟨rfl, rfl⟩
    · have d2 : decide ((c : Int) ≤ 57) = false := decide_eq_false (by omega)
      rw [decide_eq_false (fun h : 48 ≤ c ∧ c ≤ 57 => c2 h.2)]
      clear c1 c2
      go_enter Tryd.func49, Tryd.ntmps49
      go_wp2
      go_ret
      exact ⟨rfl, rfl⟩
  · have d1 : decide ((48 : Int) ≤ (c : Int)) = false := decide_eq_false (by omega)
    rw [decide_eq_false (fun h : 48 ≤ c ∧ c ≤ 57 => c1 h.1)]
    clear c1
    go_enter Tryd.func49, Tryd.ntmps49
    go_wp2
    go_ret
    exact ⟨rfl, rfl⟩
theorem value (c : Nat) (hc : c < 256) (w : World) : Calls Tryd.prog 60 #[.int .u8 c] w fun e w' => e = .returned (.int .i64 (valN c)) ∧ w = w' := by
  have ho : Go.bits .or .u8 (c : Int) 32 = ((c ||| 32 : Nat) : Int) := u8_or_nat _ 32 hc (by decide)
  unfold valN
  by_cases c0 : 48 ≤ c ∧ c ≤ 57
  · have HD := Aside0.mk (fun W => digit c true (decide_eq_true c0) W)
    rw [if_pos c0]
    have hn : ((c - 48 : Nat) : Int) = (c : Int) - 48 := by omega
    rw [hn]
    have p1 : (48 : Int) ≤ (c : Int) := by omega
    have p2 : (c : Int) ≤ 57 := by omega
    clear c0 hc hn
    go_enter Tryd.func60, Tryd.ntmps60
    go_wp2_with (go_at_call 49; (with_reducible refine (HD.out _).mono ?_); rintro e w6 ⟨rfl, rfl⟩)
    go_ret
    exact ⟨rfl, rfl⟩
  · have HD := Aside0.mk (fun W => digit c false (decide_eq_false c0) W)
    rw [if_neg c0]
    have hlt : c ||| 32 < 256 := Nat.or_lt_two_pow (n := 8) hc (by decide)
    generalize c ||| 32 = d at *
    clear c0 hc
    by_cases c1 : 97 ≤ d
    · have d1 : decide ((97 : Int) ≤ (d : Int)) = true := decide_eq_true (by omega)
      by_cases c2 : d ≤ 102
      · have d2 : decide ((d : Int) ≤ 102) = true := decide_eq_true (by omega)
        rw [if_pos ⟨c1, c2⟩]
        have hn : ((d - 97 + 10 : Nat) : Int) = (d : Int) - 97 + 10 := by omega
        rw [hn]
        have p1 : (97 : Int) ≤ (d : Int) := by omega
        have p2 : (d : Int) ≤ 102 := by omega
        clear c1 c2 hn hlt
        go_enter Tryd.func60, Tryd.ntmps60
        go_wp2_with (go_at_call 49; (with_reducible refine (HD.out _).mono ?_); rintro e w6 ⟨rfl, rfl⟩)
        go_ret
        exact ⟨rfl, rfl⟩
      · have d2 : decide ((d : Int) ≤ 102) = false := decide_eq_false (by omega)
        rw [if_neg (fun h => c2 h.2)]
        clear c1 c2 hlt
        go_enter Tryd.func60, Tryd.ntmps60
        go_wp2_with (go_at_call 49; (with_reducible refine (HD.out _).mono ?_); rintro e w6 ⟨rfl, rfl⟩)
        go_ret
        exact ⟨rfl, rfl⟩
    · have d1 : decide ((97 : Int) ≤ (d : Int)) = false := decide_eq_false (by omega)
      rw [if_neg (fun h => c1 h.1)]
      clear c1 hlt
      go_enter Tryd.func60, Tryd.ntmps60
      go_wp2_with (go_at_call 49; (with_reducible refine (HD.out _).mono ?_); rintro e w6 ⟨rfl, rfl⟩)
      go_ret
      exact ⟨rfl, rfl⟩
theorem mask32 (x : Int) (h0 : 0 ≤ x) (h1 : x < 18446744073709551616) : Go.bits .and .u64 x 4294967295 = x % 4294967296 := by
  have := u64_and x 4294967295 h0 h1 (by decide) (by decide)
  rw [this, show ((4294967295 : Int)).toNat = 2 ^ 32 - 1 from rfl, Nat.and_two_pow_sub_one_eq_mod]
  omega
theorem wrap_bd (x : Int) : 0 ≤ IntKind.u64.wrap x ∧ IntKind.u64.wrap x < 18446744073709551616 := by rw [IntKind.wrap_u64]; omega
theorem mul_hi (n b : Nat) (hn : n < 18446744073709551616) (hb : b = 2 ∨ b = 8 ∨ b = 10 ∨ b = 16) :
    IntKind.u64.wrap (IntKind.u64.wrap (IntKind.u64.wrap ((n : Int) / 4294967296 * ((b : Int) / 4294967296)) + IntKind.u64.wrap (IntKind.u64.wrap ((n : Int) / 4294967296 * Go.bits BinOp.and IntKind.u64 (b : Int) 4294967295) + IntKind.u64.wrap (Go.bits BinOp.and IntKind.u64 (n : Int) 4294967295 * Go.bits BinOp.and IntKind.u64 (b : Int) 4294967295) / 4294967296) / 4294967296) + IntKind.u64.wrap (Go.bits BinOp.and IntKind.u64 (IntKind.u64.wrap (IntKind.u64.wrap ((n : Int) / 4294967296 * Go.bits BinOp.and IntKind.u64 (b : Int) 4294967295) + IntKind.u64.wrap (Go.bits BinOp.and IntKind.u64 (n : Int) 4294967295 * Go.bits BinOp.and IntKind.u64 (b : Int) 4294967295) / 4294967296)) 4294967295 + IntKind.u64.wrap (Go.bits BinOp.and IntKind.u64 (n : Int) 4294967295 * ((b : Int) / 4294967296))) / 4294967296) = ((n * b / 18446744073709551616 : Nat) : Int) := by
  rw [mask32 (IntKind.u64.wrap _) (wrap_bd _).1 (wrap_bd _).2, mask32 (n : Int) (by omega) (by omega), mask32 (b : Int) (by omega) (by omega)]
  have e1 : (b : Int) / 4294967296 = 0 := by omega
  have e2 : (b : Int) % 4294967296 = b := by omega
  rw [e1, e2, Int.mul_zero, Int.mul_zero]
  have hP : 0 ≤ (n : Int) / 4294967296 * (b : Int) ∧ (n : Int) / 4294967296 * (b : Int) < 68719476736 := by rcases hb with rfl | rfl | rfl | rfl <;> omega
  have hQ : 0 ≤ (n : Int) % 4294967296 * (b : Int) ∧ (n : Int) % 4294967296 * (b : Int) < 68719476736 := by rcases hb with rfl | rfl | rfl | rfl <;> omega
  have hN : ((n * b : Nat) : Int) = ((n : Int) / 4294967296 * (b : Int)) * 4294967296 + (n : Int) % 4294967296 * (b : Int) := by rcases hb with rfl | rfl | rfl | rfl <;> omega
  have hD : ((n * b / 18446744073709551616 : Nat) : Int) = ((n * b : Nat) : Int) / 18446744073709551616 := by simp
  rw [hD, hN]
  generalize (n : Int) / 4294967296 * (b : Int) = P at *
  generalize (n : Int) % 4294967296 * (b : Int) = Q at *
  simp only [IntKind.wrap_u64]
  omega
theorem mul_lo (n b : Nat) : IntKind.u64.wrap ((n : Int) * (b : Int)) = ((n * b % 18446744073709551616 : Nat) : Int) := by
  rw [IntKind.wrap_u64]; simp
theorem tup2 {k : IntKind} {a a' b b' : Int} (h1 : a = a') (h2 : b = b') : Ending.returned (.tuple #[.int k a, .int k b]) = Ending.returned (.tuple #[.int k a', .int k b']) := by rw [h1, h2]
theorem mul64 (n : Nat) (hn : n < 18446744073709551616) (b : Nat) (hb : b = 2 ∨ b = 8 ∨ b = 10 ∨ b = 16) (w : World) : Calls Tryd.prog 61 #[.int .u64 n, .int .u64 b] w fun e w' => e = .returned (.tuple #[.int .u64 ((n * b / 18446744073709551616 : Nat) : Int), .int .u64 ((n * b % 18446744073709551616 : Nat) : Int)]) ∧ w = w' := by
  have H1 := Aside0.mk (mul_hi n b hn hb)
  have H2 := Aside0.mk (mul_lo n b)
  clear hn hb
  go_enter Tryd.func61, Tryd.ntmps61
  go_wp2
  go_ret2
  exact ⟨tup2 H1.out H2.out, rfl⟩
end Go.Proofs.YtdndcigppbhhdaaDoorMWord
