/- The law RegApart: some of its cases, run. Written by a program of this claim's. -/
import Derived.Test.YtdndcigppbhhdaaDoorLRegApb
namespace Go.Proofs.YtdndcigppbhhdaaDoorAL.LReg.LRegAp
open Go.Proofs Go.Proofs.YtdndcigppbhhdaaDoorAL Go.Proofs.YtdndcigppbhhdaaDoorAL.LReg
set_option maxRecDepth 100000
theorem r4_12 : good2 4 12 = true := by kernel_rfl
theorem r4_13 : good2 4 13 = true := by kernel_rfl
theorem r4_14 : good2 4 14 = true := by kernel_rfl
theorem r4_15 : good2 4 15 = true := by kernel_rfl
theorem r5_0 : good2 5 0 = true := by kernel_rfl
theorem r5_1 : good2 5 1 = true := by kernel_rfl
theorem r5_2 : good2 5 2 = true := by kernel_rfl
theorem r5_3 : good2 5 3 = true := by kernel_rfl
end Go.Proofs.YtdndcigppbhhdaaDoorAL.LReg.LRegAp
