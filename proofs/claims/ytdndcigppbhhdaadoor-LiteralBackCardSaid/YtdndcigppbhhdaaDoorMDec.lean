/-
  Hex and Dec, in a world whose low blocks are as they were laid: what they tell of any number.
-/
import Derived.Test.YtdndcigppbhhdaaDoorMAwake
import Derived.Test.YtdndcigppbhhdaaDoorMHex
namespace Go.Proofs.YtdndcigppbhhdaaDoorMDec
open Go.Proofs Go.RowKit Go.Proofs.YtdndcigppbhhdaaDoorW.PrintWords Go.Proofs.YtdndcigppbhhdaaDoorW.PrintMore Go.Proofs.YtdndcigppbhhdaaDoorAM
set_option linter.unusedVariables false
def InI (n : Int) : Prop := -9223372036854775808 ≤ n ∧ n ≤ 9223372036854775807
instance (n : Int) : Decidable (InI n) := inferInstanceAs (Decidable (_ ∧ _))
theorem dec0 (n : Int) (h0 : -9223372036854775808 ≤ n) (h1 : n ≤ 9223372036854775807) (w : World) (htab : Lib.TabIs Tryd.prog w "internal/strconv.uint64pow10" .u64 Lib.pow10Tab) : Calls Tryd.prog 28 #[.int .i64 n] w fun e w' => e = .returned (.string ⟨(Lib.itoa n).toArray⟩) ∧ Below w.heap.size w w' := by
  have HF := Aside0.mk ((Go.Proofs.YtdndcigppbhhdaaDoorMI.itoa n h0 h1 w htab).mono fun e w' (hq : _ ∧ ∃ k os, _) => (⟨hq.1, by obtain ⟨k, os, rfl⟩ := hq.2; exact Go.Proofs.YtdndcigppbhhdaaDoorMI.below w k os⟩ : e = .returned (.string ⟨(Lib.itoa n).toArray⟩) ∧ Below w.heap.size w w'))
  clear h0 h1 htab
  go_enter Tryd.func28, Tryd.ntmps28
  go_wp2_with (go_at_call 47; (with_reducible refine HF.out.mono ?_); rintro e w5 ⟨rfl, hb⟩)
  go_ret
  exact ⟨rfl, hb⟩
theorem dec [Glo] [TabL] (n : Int) (h : InI n) (w : World) (hL : Low w) : Calls Tryd.prog 28 #[.int .i64 n] w fun e w' => e = .returned (.string ⟨(Lib.itoa n).toArray⟩) ∧ Below w.heap.size w w' := dec0 n h.1 h.2 w (TabL.pow w hL)
theorem hex [Glo] [TabL] (n : Int) (h : InI n) (w : World) (hL : Low w) : Calls Tryd.prog 26 #[.int .i64 n] w fun e w' => e = .returned (.string (Go.Proofs.YtdndcigppbhhdaaDoorMHex.hexB n)) ∧ Below w.heap.size w w' := Go.Proofs.YtdndcigppbhhdaaDoorMHex.hex n h.1 h.2 w (TabL.db w hL)
end Go.Proofs.YtdndcigppbhhdaaDoorMDec
