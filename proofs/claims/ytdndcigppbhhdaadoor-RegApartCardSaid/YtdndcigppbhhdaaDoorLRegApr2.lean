/- The law RegApart: some of its cases, run. Written by a program of this claim's. -/
import Derived.Test.YtdndcigppbhhdaaDoorLRegApb
namespace Go.Proofs.YtdndcigppbhhdaaDoorAL.LReg.LRegAp
open Go.Proofs Go.Proofs.YtdndcigppbhhdaaDoorAL Go.Proofs.YtdndcigppbhhdaaDoorAL.LReg
set_option maxRecDepth 100000
theorem r1_4 : good2 1 4 = true := by kernel_rfl
theorem r1_5 : good2 1 5 = true := by kernel_rfl
theorem r1_6 : good2 1 6 = true := by kernel_rfl
theorem r1_7 : good2 1 7 = true := by kernel_rfl
theorem r2_0 : good2 2 0 = true := by kernel_rfl
theorem r2_1 : good2 2 1 = true := by kernel_rfl
theorem r2_2 : good2 2 2 = true := by kernel_rfl
theorem r2_3 : good2 2 3 = true := by kernel_rfl
end Go.Proofs.YtdndcigppbhhdaaDoorAL.LReg.LRegAp
