/- The law RegApart: some of its cases, run. Written by a program of this claim's. -/
import Derived.Test.YtdndcigppbhhdaaDoorLRegApb
namespace Go.Proofs.YtdndcigppbhhdaaDoorAL.LReg.LRegAp
open Go.Proofs Go.Proofs.YtdndcigppbhhdaaDoorAL Go.Proofs.YtdndcigppbhhdaaDoorAL.LReg
set_option maxRecDepth 100000
theorem r5_12 : good2 5 12 = true := by kernel_rfl
theorem r5_13 : good2 5 13 = true := by kernel_rfl
theorem r5_14 : good2 5 14 = true := by kernel_rfl
theorem r5_15 : good2 5 15 = true := by kernel_rfl
theorem r6_0 : good2 6 0 = true := by kernel_rfl
theorem r6_1 : good2 6 1 = true := by kernel_rfl
theorem r6_2 : good2 6 2 = true := by kernel_rfl
theorem r6_3 : good2 6 3 = true := by kernel_rfl
end Go.Proofs.YtdndcigppbhhdaaDoorAL.LReg.LRegAp
