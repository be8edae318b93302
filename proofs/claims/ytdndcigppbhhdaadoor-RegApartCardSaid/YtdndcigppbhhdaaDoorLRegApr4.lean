/- The law RegApart: some of its cases, run. Written by a program of this claim's. -/
import Derived.Test.YtdndcigppbhhdaaDoorLRegApb
namespace Go.Proofs.YtdndcigppbhhdaaDoorAL.LReg.LRegAp
open Go.Proofs Go.Proofs.YtdndcigppbhhdaaDoorAL Go.Proofs.YtdndcigppbhhdaaDoorAL.LReg
set_option maxRecDepth 100000
theorem r2_12 : good2 2 12 = true := by kernel_rfl
theorem r2_13 : good2 2 13 = true := by kernel_rfl
theorem r2_14 : good2 2 14 = true := by kernel_rfl
theorem r2_15 : good2 2 15 = true := by kernel_rfl
theorem r3_0 : good2 3 0 = true := by kernel_rfl
theorem r3_1 : good2 3 1 = true := by kernel_rfl
theorem r3_2 : good2 3 2 = true := by kernel_rfl
theorem r3_3 : good2 3 3 = true := by kernel_rfl
end Go.Proofs.YtdndcigppbhhdaaDoorAL.LReg.LRegAp
