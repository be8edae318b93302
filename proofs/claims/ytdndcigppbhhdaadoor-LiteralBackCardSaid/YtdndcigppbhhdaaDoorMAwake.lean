/- awake: it returns true, whatever the world (its closed run by the interpreter, in the kernel); the blocks that stay, stay. -/
import Derived.Test.YtdndcigppbhhdaaDoorMLit
import Derived.Test.YtdndcigppbhhdaaDoorMLitE
namespace Go.Proofs.YtdndcigppbhhdaaDoorAM
theorem lowB [Glo] {w W : World} (h : Low w) (hb : Go.RowKit.Below w.heap.size w W) : Low W :=
  ⟨Nat.le_trans h.1 hb.size, fun b hlt => (hb.block b (Nat.lt_of_lt_of_le hlt h.1)).trans (h.2 b hlt)⟩
theorem ext1 (x : ByteArray) : (x.extract 1 x.size).size = x.size - 1 := by rw [ByteArray.size_extract]; omega
theorem w64 {x : Int} (h0 : 0 ≤ x) (h1 : x < 9223372036854775808) : Go.RowKit.wrap64 x = x := by unfold Go.RowKit.wrap64; omega
theorem sz1 (a : UInt8) : (⟨#[a]⟩ : ByteArray).size = 1 := rfl
theorem sz2 (a b : UInt8) : (⟨#[a, b]⟩ : ByteArray).size = 2 := rfl
end Go.Proofs.YtdndcigppbhhdaaDoorAM
namespace Go.Proofs.YtdndcigppbhhdaaDoorAM.MLitE
open Go.Proofs Go.Proofs.YtdndcigppbhhdaaDoorAM
set_option maxRecDepth 100000
theorem awake [Glo] [TabL] (w : World) (hL : Low w) : Calls Tryd.prog 30 #[] w fun e w' => e = .returned (.bool true) ∧ Go.RowKit.Below w.heap.size w w' := run_true (callL_ok (smL_ok (l := []) trivial) envOK mixed 3000 60) (by kernel_rfl) w hL #[] .nil
end Go.Proofs.YtdndcigppbhhdaaDoorAM.MLitE
