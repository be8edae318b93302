/- The law RegApart: some of its cases, run. Written by a program of this claim's. -/
import Derived.Test.YtdndcigppbhhdaaDoorLRegApb
namespace Go.Proofs.YtdndcigppbhhdaaDoorAL.LReg.LRegAp
open Go.Proofs Go.Proofs.YtdndcigppbhhdaaDoorAL Go.Proofs.YtdndcigppbhhdaaDoorAL.LReg
set_option maxRecDepth 100000
theorem r3_12 : good2 3 12 = true := by kernel_rfl
theorem r3_13 : good2 3 13 = true := by kernel_rfl
theorem r3_14 : good2 3 14 = true := by kernel_rfl
theorem r3_15 : good2 3 15 = true := by kernel_rfl
theorem r4_0 : good2 4 0 = true := by kernel_rfl
theorem r4_1 : good2 4 1 = true := by kernel_rfl
theorem r4_2 : good2 4 2 = true := by kernel_rfl
theorem r4_3 : good2 4 3 = true := by kernel_rfl
end Go.Proofs.YtdndcigppbhhdaaDoorAL.LReg.LRegAp
