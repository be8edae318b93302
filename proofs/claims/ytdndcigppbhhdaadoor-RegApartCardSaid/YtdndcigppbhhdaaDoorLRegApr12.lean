/- The law RegApart: some of its cases, run. Written by a program of this claim's. -/
import Derived.Test.YtdndcigppbhhdaaDoorLRegApb
namespace Go.Proofs.YtdndcigppbhhdaaDoorAL.LReg.LRegAp
open Go.Proofs Go.Proofs.YtdndcigppbhhdaaDoorAL Go.Proofs.YtdndcigppbhhdaaDoorAL.LReg
set_option maxRecDepth 100000
theorem r6_12 : good2 6 12 = true := by kernel_rfl
theorem r6_13 : good2 6 13 = true := by kernel_rfl
theorem r6_14 : good2 6 14 = true := by kernel_rfl
theorem r6_15 : good2 6 15 = true := by kernel_rfl
theorem r7_0 : good2 7 0 = true := by kernel_rfl
end Go.Proofs.YtdndcigppbhhdaaDoorAL.LReg.LRegAp
