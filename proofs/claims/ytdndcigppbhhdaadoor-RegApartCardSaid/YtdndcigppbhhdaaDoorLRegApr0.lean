/- The law RegApart: some of its cases, run. Written by a program of this claim's. -/
import Derived.Test.YtdndcigppbhhdaaDoorLRegApb
namespace Go.Proofs.YtdndcigppbhhdaaDoorAL.LReg.LRegAp
open Go.Proofs Go.Proofs.YtdndcigppbhhdaaDoorAL Go.Proofs.YtdndcigppbhhdaaDoorAL.LReg
set_option maxRecDepth 100000
theorem r0_0 : good2 0 0 = true := by kernel_rfl
theorem r0_1 : good2 0 1 = true := by kernel_rfl
theorem r0_2 : good2 0 2 = true := by kernel_rfl
theorem r0_3 : good2 0 3 = true := by kernel_rfl
theorem r0_4 : good2 0 4 = true := by kernel_rfl
theorem r0_5 : good2 0 5 = true := by kernel_rfl
theorem r0_6 : good2 0 6 = true := by kernel_rfl
theorem r0_7 : good2 0 7 = true := by kernel_rfl
end Go.Proofs.YtdndcigppbhhdaaDoorAL.LReg.LRegAp
