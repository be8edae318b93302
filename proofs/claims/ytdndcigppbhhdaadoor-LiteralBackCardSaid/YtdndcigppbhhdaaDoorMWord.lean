import Derived.Test.YtdndcigppbhhdaaDoorMItoa
import Derived.Test.YtdndcigppbhhdaaDoorWMore
import Derived.Test.YtdndcigppbhhdaaDoorWWords
import Derived.Below
import Derived.WalkKit
import Derived.KernelRfl
import Derived.Outline
import Derived.Deep.LoopGhost
import Derived.Deep.CutBlock
import Derived.Laws.Rows
import Derived.Laws.BitsAllLaws
import Derived.Laws.BytesArg
import Derived.ScopeJumps
import Derived.Deep.QuietTactic
import Derived.BigQuiet
namespace Go.Proofs.YtdndcigppbhhdaaDoorMWord
open Go.Proofs Go.RowKit Go.Proofs.YtdndcigppbhhdaaDoorW.PrintWords Go.Proofs.YtdndcigppbhhdaaDoorW.PrintMore
set_option linter.unusedVariables false
set_option linter.unusedSimpArgs false
/-- A text's byte. -/
def by_ (s : ByteArray) (i : Nat) : Nat := if h : i < s.size then (s[i]'h).toNat else 0
theorem by_at (s : ByteArray) (i : Nat) : ∀ h : i < s.size, (((s[i]'h).toNat : Nat) : Int) = ((by_ s i : Nat) : Int) := fun h => by simp [by_, h]
theorem by_lt (s : ByteArray) (i : Nat) : by_ s i < 256 := by
  unfold by_
  split
  · rename_i h
    exact (s[i]'h).toNat_lt
  · decide
/-- Does a word begin with 0 and this letter, and has it more? -/
def isB (s : ByteArray) (c : Nat) : Bool := decide (2 < s.size) && (by_ s 0 == 48 && (by_ s 1 ||| 32) == c)
set_option maxHeartbeats 800000 in
theorem two (s : ByteArray) (hs2 : s.size ≤ 140737488351232) (c : Nat) (g : Nat) (w : World) (hc : w.cell? ⟨g, 0, none⟩ = some (.string s)) : Calls Tryd.prog 69 #[.int .u8 c, .pointer (some ⟨g, 0, none⟩)] w fun e w' => e = .returned (.bool (isB s c)) ∧ w = w' := by
  unfold isB
  by_cases c1 : 2 < s.size
  · have d1 : decide ((2 : Int) < (s.size : Int)) = true := decide_eq_true (by omega)
    have p0 := eq_true (show (0 : Int) < (s.size : Int) by omega)
    have p1 := eq_true (show (1 : Int) < (s.size : Int) by omega)
    have h0 := by_at s 0
    have h1 := by_at s 1
    have l0 := by_lt s 0
    have l1 := by_lt s 1
    have ho : Go.bits .or .u8 ((by_ s 1 : Nat) : Int) 32 = ((by_ s 1 ||| 32 : Nat) : Int) := u8_or_nat _ 32 l1 (by decide)
    rw [decide_eq_true c1]
    generalize by_ s 1 = b1 at *
    generalize by_ s 0 = b0 at *
    generalize b1 ||| 32 = b2 at *
    by_cases c2 : b0 = 48
    · have e2 : ((b0 : Int) == 48) = true := beq_iff_eq.2 (by omega)
      have f2 : (b0 == 48) = true := beq_iff_eq.2 c2
      rw [f2]
      by_cases c3 : b2 = c
      · have e3 : ((b2 : Int) == (c : Int)) = true := beq_iff_eq.2 (by omega)
        have f3 : (b2 == c) = true := beq_iff_eq.2 c3
        rw [f3]
        clear c2 c3 f2 f3
        go_enter Tryd.func69, Tryd.ntmps69
        go_wp2
        go_ret
        exact ⟨rfl, rfl⟩
      · have e3 : ((b2 : Int) == (c : Int)) = false := beq_eq_false_iff_ne.2 (by omega)
        have f3 : (b2 == c) = false := beq_eq_false_iff_ne.2 c3
        rw [f3]
        clear c2 c3 f2 f3
        go_enter Tryd.func69, Tryd.ntmps69
        go_wp2
        go_ret
        exact ⟨rfl, rfl⟩
    · have e2 : ((b0 : Int) == 48) = false := beq_eq_false_iff_ne.2 (by omega)
      have f2 : (b0 == 48) = false := beq_eq_false_iff_ne.2 c2
      rw [f2]
      clear c2 f2
      go_enter Tryd.func69, Tryd.ntmps69
      go_wp2
      go_ret
      exact ⟨rfl, rfl⟩
  · have d1 : decide ((2 : Int) < (s.size : Int)) = false := decide_eq_false (by omega)
    rw [decide_eq_false c1, Bool.false_and]
    clear c1
    go_enter Tryd.func69, Tryd.ntmps69
    go_wp2
    go_ret
    exact ⟨rfl, rfl⟩
theorem twoL (s : ByteArray) (hs2 : s.size ≤ 140737488351232) (c : Nat) (ci : Int) (hci : ci = c) (b : Bool) (hb : isB s c = b) (g : Nat) : Aside0 (∀ (w : World), w.cell? ⟨g, 0, none⟩ = some (.string s) → Calls Tryd.prog 69 #[.int .u8 ci, .pointer (some ⟨g, 0, none⟩)] w fun e w' => e = .returned (.bool b) ∧ w = w') := by
  subst hci hb
  exact ⟨fun w hc => two s hs2 c g w hc⟩
/-- The base of a word, where its digits begin, and where they end. -/
def shp (s : ByteArray) : Nat × Nat × Nat :=
  if isB s 120 then (16, 2, s.size) else if (by_ s (s.size - 1) ||| 32) = 104 then (16, 0, s.size - 1) else if isB s 98 then (2, 2, s.size) else if isB s 111 then (8, 2, s.size) else (10, 0, s.size)
section
variable (s : ByteArray) (hs : 1 ≤ s.size) (hs2 : s.size ≤ 140737488351232) (w : World)
include hs hs2
set_option maxHeartbeats 1600000
set_option maxRecDepth 100000
theorem shape1 (h120 : isB s 120 = true) : Calls Tryd.prog 59 #[.string s] w fun e w' => e = .returned (.tuple #[.int .i64 16, .int .i64 2, .int .i64 s.size]) ∧ Below w.heap.size w w' := by
  have HT120 := twoL s hs2 120 120 rfl _ h120 w.heap.size
  have p0 := eq_true (show (0 : Int) ≤ (s.size : Int) - 1 by omega)
  have hl := by_at s (s.size - 1)
  have ho : Go.bits .or .u8 ((by_ s (s.size - 1) : Nat) : Int) 32 = ((by_ s (s.size - 1) ||| 32 : Nat) : Int) := u8_or_nat _ 32 (by_lt s (s.size - 1)) (by decide)
  generalize by_ s (s.size - 1) = b at *
  generalize b ||| 32 = b2 at *
  clear h120
  go_enter Tryd.func59, Tryd.ntmps59
  go_wp2_with (first | ((with_reducible refine gate_dst (N := 1) rfl ?_); refine box_event ?hg (N := 1) ?hd (cs := #[.string s]) (t := 9) ?hr ?_; (case hd => rfl); (case hg => rfl); (case hr => first | (go_simp; done) | (go_simp; rfl)); intro g hg w1 hbox hb; subst hg; have hc : w1.cell? ⟨w.heap.size, 0, none⟩ = some (.string s) := (blk_cell hbox 0).trans rfl; clear hbox) | (go_at_call 69; first | ((with_reducible refine (HT120.out _ hc).mono ?_); rintro e w6 ⟨rfl, rfl⟩)))
  go_quiet (fail)
  go_wp2
  go_ret3
  exact ⟨rfl, pw_below_drewN hb _⟩
theorem shape2 (h120 : isB s 120 = false) (hlast : (by_ s (s.size - 1) ||| 32) = 104) : Calls Tryd.prog 59 #[.string s] w fun e w' => e = .returned (.tuple #[.int .i64 16, .int .i64 0, .int .i64 (s.size - 1 : Nat)]) ∧ Below w.heap.size w w' := by
  have HT120 := twoL s hs2 120 120 rfl _ h120 w.heap.size
  have p0 := eq_true (show (0 : Int) ≤ (s.size : Int) - 1 by omega)
  have hl := by_at s (s.size - 1)
  have ho : Go.bits .or .u8 ((by_ s (s.size - 1) : Nat) : Int) 32 = ((by_ s (s.size - 1) ||| 32 : Nat) : Int) := u8_or_nat _ 32 (by_lt s (s.size - 1)) (by decide)
  generalize by_ s (s.size - 1) = b at *
  generalize b ||| 32 = b2 at *
  have e1 : ((b2 : Int) == 104) = true := beq_iff_eq.2 (by omega)
  clear hlast
  clear h120
  go_enter Tryd.func59, Tryd.ntmps59
  go_wp2_with (first | ((with_reducible refine gate_dst (N := 1) rfl ?_); refine box_event ?hg (N := 1) ?hd (cs := #[.string s]) (t := 9) ?hr ?_; (case hd => rfl); (case hg => rfl); (case hr => first | (go_simp; done) | (go_simp; rfl)); intro g hg w1 hbox hb; subst hg; have hc : w1.cell? ⟨w.heap.size, 0, none⟩ = some (.string s) := (blk_cell hbox 0).trans rfl; clear hbox) | (go_at_call 69; first | ((with_reducible refine (HT120.out _ hc).mono ?_); rintro e w6 ⟨rfl, rfl⟩)))
  go_quiet (fail)
  go_wp2
  go_ret3
  exact ⟨by rw [show ((s.size - 1 : Nat) : Int) = (s.size : Int) - 1 by omega]; rfl, pw_below_drewN hb _⟩
theorem shape3 (h120 : isB s 120 = false) (h98 : isB s 98 = true) (hlast : ¬ (by_ s (s.size - 1) ||| 32) = 104) : Calls Tryd.prog 59 #[.string s] w fun e w' => e = .returned (.tuple #[.int .i64 2, .int .i64 2, .int .i64 s.size]) ∧ Below w.heap.size w w' := by
  have HT120 := twoL s hs2 120 120 rfl _ h120 w.heap.size
  have HT98 := twoL s hs2 98 98 rfl _ h98 w.heap.size
  have p0 := eq_true (show (0 : Int) ≤ (s.size : Int) - 1 by omega)
  have hl := by_at s (s.size - 1)
  have ho : Go.bits .or .u8 ((by_ s (s.size - 1) : Nat) : Int) 32 = ((by_ s (s.size - 1) ||| 32 : Nat) : Int) := u8_or_nat _ 32 (by_lt s (s.size - 1)) (by decide)
  generalize by_ s (s.size - 1) = b at *
  generalize b ||| 32 = b2 at *
  have e1 : ((b2 : Int) == 104) = false := beq_eq_false_iff_ne.2 (by omega)
  clear hlast
  clear h120 h98
  go_enter Tryd.func59, Tryd.ntmps59
  go_wp2_with (first | ((with_reducible refine gate_dst (N := 1) rfl ?_); refine box_event ?hg (N := 1) ?hd (cs := #[.string s]) (t := 9) ?hr ?_; (case hd => rfl); (case hg => rfl); (case hr => first | (go_simp; done) | (go_simp; rfl)); intro g hg w1 hbox hb; subst hg; have hc : w1.cell? ⟨w.heap.size, 0, none⟩ = some (.string s) := (blk_cell hbox 0).trans rfl; clear hbox) | (go_at_call 69; first | ((with_reducible refine (HT120.out _ hc).mono ?_); rintro e w6 ⟨rfl, rfl⟩) | ((with_reducible refine (HT98.out _ hc).mono ?_); rintro e w6 ⟨rfl, rfl⟩)))
  go_quiet (fail)
  go_wp2
  go_ret3
  exact ⟨rfl, pw_below_drewN hb _⟩
theorem shape4 (h120 : isB s 120 = false) (h98 : isB s 98 = false) (h111 : isB s 111 = true) (hlast : ¬ (by_ s (s.size - 1) ||| 32) = 104) : Calls Tryd.prog 59 #[.string s] w fun e w' => e = .returned (.tuple #[.int .i64 8, .int .i64 2, .int .i64 s.size]) ∧ Below w.heap.size w w' := by
  have HT120 := twoL s hs2 120 120 rfl _ h120 w.heap.size
  have HT98 := twoL s hs2 98 98 rfl _ h98 w.heap.size
  have HT111 := twoL s hs2 111 111 rfl _ h111 w.heap.size
  have p0 := eq_true (show (0 : Int) ≤ (s.size : Int) - 1 by omega)
  have hl := by_at s (s.size - 1)
  have ho : Go.bits .or .u8 ((by_ s (s.size - 1) : Nat) : Int) 32 = ((by_ s (s.size - 1) ||| 32 : Nat) : Int) := u8_or_nat _ 32 (by_lt s (s.size - 1)) (by decide)
  generalize by_ s (s.size - 1) = b at *
  generalize b ||| 32 = b2 at *
  have e1 : ((b2 : Int) == 104) = false := beq_eq_false_iff_ne.2 (by omega)
  clear hlast
  clear h120 h98 h111
  go_enter Tryd.func59, Tryd.ntmps59
  go_wp2_with (first | ((with_reducible refine gate_dst (N := 1) rfl ?_); refine box_event ?hg (N := 1) ?hd (cs := #[.string s]) (t := 9) ?hr ?_; (case hd => rfl); (case hg => rfl); (case hr => first | (go_simp; done) | (go_simp; rfl)); intro g hg w1 hbox hb; subst hg; have hc : w1.cell? ⟨w.heap.size, 0, none⟩ = some (.string s) := (blk_cell hbox 0).trans rfl; clear hbox) | (go_at_call 69; first | ((with_reducible refine (HT120.out _ hc).mono ?_); rintro e w6 ⟨rfl, rfl⟩) | ((with_reducible refine (HT98.out _ hc).mono ?_); rintro e w6 ⟨rfl, rfl⟩) | ((with_reducible refine (HT111.out _ hc).mono ?_); rintro e w6 ⟨rfl, rfl⟩)))
  go_quiet (fail)
  go_wp2
  go_ret3
  exact ⟨rfl, pw_below_drewN hb _⟩
theorem shape5 (h120 : isB s 120 = false) (h98 : isB s 98 = false) (h111 : isB s 111 = false) (hlast : ¬ (by_ s (s.size - 1) ||| 32) = 104) : Calls Tryd.prog 59 #[.string s] w fun e w' => e = .returned (.tuple #[.int .i64 10, .int .i64 0, .int .i64 s.size]) ∧ Below w.heap.size w w' := by
  have HT120 := twoL s hs2 120 120 rfl _ h120 w.heap.size
  have HT98 := twoL s hs2 98 98 rfl _ h98 w.heap.size
  have HT111 := twoL s hs2 111 111 rfl _ h111 w.heap.size
  have p0 := eq_true (show (0 : Int) ≤ (s.size : Int) - 1 by omega)
  have hl := by_at s (s.size - 1)
  have ho : Go.bits .or .u8 ((by_ s (s.size - 1) : Nat) : Int) 32 = ((by_ s (s.size - 1) ||| 32 : Nat) : Int) := u8_or_nat _ 32 (by_lt s (s.size - 1)) (by decide)
  generalize by_ s (s.size - 1) = b at *
  generalize b ||| 32 = b2 at *
  have e1 : ((b2 : Int) == 104) = false := beq_eq_false_iff_ne.2 (by omega)
  clear hlast
  clear h120 h98 h111
  go_enter Tryd.func59, Tryd.ntmps59
  go_wp2_with (first | ((with_reducible refine gate_dst (N := 1) rfl ?_); refine box_event ?hg (N := 1) ?hd (cs := #[.string s]) (t := 9) ?hr ?_; (case hd => rfl); (case hg => rfl); (case hr => first | (go_simp; done) | (go_simp; rfl)); intro g hg w1 hbox hb; subst hg; have hc : w1.cell? ⟨w.heap.size, 0, none⟩ = some (.string s) := (blk_cell hbox 0).trans rfl; clear hbox) | (go_at_call 69; first | ((with_reducible refine (HT120.out _ hc).mono ?_); rintro e w6 ⟨rfl, rfl⟩) | ((with_reducible refine (HT98.out _ hc).mono ?_); rintro e w6 ⟨rfl, rfl⟩) | ((with_reducible refine (HT111.out _ hc).mono ?_); rintro e w6 ⟨rfl, rfl⟩)))
  go_quiet (fail)
  go_wp2
  go_ret3
  exact ⟨rfl, pw_below_drewN hb _⟩
theorem shape : Calls Tryd.prog 59 #[.string s] w fun e w' => e = .returned (.tuple #[.int .i64 (shp s).1, .int .i64 (shp s).2.1, .int .i64 (shp s).2.2]) ∧ Below w.heap.size w w' := by
  cases h1 : isB s 120 with
  | true =>
    rw [show shp s = (16, 2, s.size) by simp [shp, h1]]
    exact shape1 s hs hs2 w h1
  | false =>
    by_cases h2 : (by_ s (s.size - 1) ||| 32) = 104
    · rw [show shp s = (16, 0, s.size - 1) by simp [shp, h1, h2]]
      exact shape2 s hs hs2 w h1 h2
    · cases h3 : isB s 98 with
      | true =>
        rw [show shp s = (2, 2, s.size) by simp [shp, h1, h2, h3]]
        exact shape3 s hs hs2 w h1 h3 h2
      | false =>
        cases h4 : isB s 111 with
        | true =>
          rw [show shp s = (8, 2, s.size) by simp [shp, h1, h2, h3, h4]]
          exact shape4 s hs hs2 w h1 h3 h4 h2
        | false =>
          rw [show shp s = (10, 0, s.size) by simp [shp, h1, h2, h3, h4]]
          exact shape5 s hs hs2 w h1 h3 h4 h2
end
end Go.Proofs.YtdndcigppbhhdaaDoorMWord
