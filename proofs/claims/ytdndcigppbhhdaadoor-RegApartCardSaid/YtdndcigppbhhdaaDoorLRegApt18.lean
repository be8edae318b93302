/- The law RegApart: the table's part of function 18, each entry run. Written by a program of this claim's. -/
import Derived.Test.YtdndcigppbhhdaaDoorLRegApt
namespace Go.Proofs.YtdndcigppbhhdaaDoorAL.LReg.LRegAp
open Go.Proofs Go.Proofs.YtdndcigppbhhdaaDoorAL Go.Proofs.YtdndcigppbhhdaaDoorAL.LReg
set_option maxRecDepth 100000
theorem e18 : entries 18 tab18 = true := by kernel_rfl
end Go.Proofs.YtdndcigppbhhdaaDoorAL.LReg.LRegAp
