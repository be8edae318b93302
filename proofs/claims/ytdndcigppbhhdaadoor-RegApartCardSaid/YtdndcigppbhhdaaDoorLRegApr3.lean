/- The law RegApart: some of its cases, run. Written by a program of this claim's. -/
import Derived.Test.YtdndcigppbhhdaaDoorLRegApb
namespace Go.Proofs.YtdndcigppbhhdaaDoorAL.LReg.LRegAp
open Go.Proofs Go.Proofs.YtdndcigppbhhdaaDoorAL Go.Proofs.YtdndcigppbhhdaaDoorAL.LReg
set_option maxRecDepth 100000
theorem r2_4 : good2 2 4 = true := by kernel_rfl
theorem r2_5 : good2 2 5 = true := by kernel_rfl
theorem r2_6 : good2 2 6 = true := by kernel_rfl
theorem r2_7 : good2 2 7 = true := by kernel_rfl
theorem r2_8 : good2 2 8 = true := by kernel_rfl
theorem r2_9 : good2 2 9 = true := by kernel_rfl
theorem r2_10 : good2 2 10 = true := by kernel_rfl
theorem r2_11 : good2 2 11 = true := by kernel_rfl
end Go.Proofs.YtdndcigppbhhdaaDoorAL.LReg.LRegAp
