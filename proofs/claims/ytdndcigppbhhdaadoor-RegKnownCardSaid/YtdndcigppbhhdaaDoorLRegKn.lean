/- RegKnown: it returns true, whatever the world (its closed run by the interpreter, in the kernel). -/
import Derived.Test.YtdndcigppbhhdaaDoorLFields
import Derived.Test.YtdndcigppbhhdaaDoorLReg
namespace Go.Proofs.YtdndcigppbhhdaaDoorAL.LReg
open Go.Proofs Go.Proofs.YtdndcigppbhhdaaDoorAL
set_option maxRecDepth 100000
variable [Glo] [Tab]
theorem LRegKn.walk (w : World) (hL : Low w) : Calls Tryd.prog 3 #[] w fun e w' => e = .returned (.bool true) ∧ Go.RowKit.Below w.heap.size w w' := run_true (callF_ok (ms := []) trivial (smL_ok (l := []) trivial) envOK mixed 3000 60) (by kernel_rfl) w hL #[] .nil
end Go.Proofs.YtdndcigppbhhdaaDoorAL.LReg
