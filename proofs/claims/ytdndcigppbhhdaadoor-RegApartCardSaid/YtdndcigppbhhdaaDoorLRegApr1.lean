/- The law RegApart: some of its cases, run. Written by a program of this claim's. -/
import Derived.Test.YtdndcigppbhhdaaDoorLRegApb
namespace Go.Proofs.YtdndcigppbhhdaaDoorAL.LReg.LRegAp
open Go.Proofs Go.Proofs.YtdndcigppbhhdaaDoorAL Go.Proofs.YtdndcigppbhhdaaDoorAL.LReg
set_option maxRecDepth 100000
theorem r0_8 : good2 0 8 = true := by kernel_rfl
theorem r0_9 : good2 0 9 = true := by kernel_rfl
theorem r0_10 : good2 0 10 = true := by kernel_rfl
theorem r0_11 : good2 0 11 = true := by kernel_rfl
theorem r0_12 : good2 0 12 = true := by kernel_rfl
theorem r0_13 : good2 0 13 = true := by kernel_rfl
theorem r0_14 : good2 0 14 = true := by kernel_rfl
theorem r0_15 : good2 0 15 = true := by kernel_rfl
end Go.Proofs.YtdndcigppbhhdaaDoorAL.LReg.LRegAp
