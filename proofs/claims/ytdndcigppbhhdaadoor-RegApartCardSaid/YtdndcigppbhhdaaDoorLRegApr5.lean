/- The law RegApart: some of its cases, run. Written by a program of this claim's. -/
import Derived.Test.YtdndcigppbhhdaaDoorLRegApb
namespace Go.Proofs.YtdndcigppbhhdaaDoorAL.LReg.LRegAp
open Go.Proofs Go.Proofs.YtdndcigppbhhdaaDoorAL Go.Proofs.YtdndcigppbhhdaaDoorAL.LReg
set_option maxRecDepth 100000
theorem r3_4 : good2 3 4 = true := by kernel_rfl
theorem r3_5 : good2 3 5 = true := by kernel_rfl
theorem r3_6 : good2 3 6 = true := by kernel_rfl
theorem r3_7 : good2 3 7 = true := by kernel_rfl
theorem r3_8 : good2 3 8 = true := by kernel_rfl
theorem r3_9 : good2 3 9 = true := by kernel_rfl
theorem r3_10 : good2 3 10 = true := by kernel_rfl
theorem r3_11 : good2 3 11 = true := by kernel_rfl
end Go.Proofs.YtdndcigppbhhdaaDoorAL.LReg.LRegAp
