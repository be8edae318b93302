/- The law RegApart: some of its cases, run. Written by a program of this claim's. -/
import Derived.Test.YtdndcigppbhhdaaDoorLRegApb
namespace Go.Proofs.YtdndcigppbhhdaaDoorAL.LReg.LRegAp
open Go.Proofs Go.Proofs.YtdndcigppbhhdaaDoorAL Go.Proofs.YtdndcigppbhhdaaDoorAL.LReg
set_option maxRecDepth 100000
theorem r5_4 : good2 5 4 = true := by kernel_rfl
theorem r5_5 : good2 5 5 = true := by kernel_rfl
theorem r5_6 : good2 5 6 = true := by kernel_rfl
theorem r5_7 : good2 5 7 = true := by kernel_rfl
theorem r5_8 : good2 5 8 = true := by kernel_rfl
theorem r5_9 : good2 5 9 = true := by kernel_rfl
theorem r5_10 : good2 5 10 = true := by kernel_rfl
theorem r5_11 : good2 5 11 = true := by kernel_rfl
end Go.Proofs.YtdndcigppbhhdaaDoorAL.LReg.LRegAp
