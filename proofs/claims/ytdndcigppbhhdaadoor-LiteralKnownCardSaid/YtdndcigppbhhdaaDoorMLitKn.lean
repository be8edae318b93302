/- LiteralKnown: it returns true, whatever the world (its closed run by the interpreter, in the kernel). -/
import Derived.Test.YtdndcigppbhhdaaDoorMLit
import Derived.Test.YtdndcigppbhhdaaDoorMLitE
namespace Go.Proofs.YtdndcigppbhhdaaDoorAM.MLitE
open Go.Proofs Go.Proofs.YtdndcigppbhhdaaDoorAM
set_option maxRecDepth 100000
variable [Glo] [TabL]
theorem MLitKn.walk (w : World) (hL : Low w) : Calls Tryd.prog 10 #[] w fun e w' => e = .returned (.bool true) ∧ Go.RowKit.Below w.heap.size w w' := run_true (callL_ok (smL_ok (l := []) trivial) envOK mixed 3000 60) (by kernel_rfl) w hL #[] .nil
end Go.Proofs.YtdndcigppbhhdaaDoorAM.MLitE
