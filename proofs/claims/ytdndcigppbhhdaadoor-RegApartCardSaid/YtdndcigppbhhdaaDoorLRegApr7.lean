/- The law RegApart: some of its cases, run. Written by a program of this claim's. -/
import Derived.Test.YtdndcigppbhhdaaDoorLRegApb
namespace Go.Proofs.YtdndcigppbhhdaaDoorAL.LReg.LRegAp
open Go.Proofs Go.Proofs.YtdndcigppbhhdaaDoorAL Go.Proofs.YtdndcigppbhhdaaDoorAL.LReg
set_option maxRecDepth 100000
theorem r4_4 : good2 4 4 = true := by kernel_rfl
theorem r4_5 : good2 4 5 = true := by kernel_rfl
theorem r4_6 : good2 4 6 = true := by kernel_rfl
theorem r4_7 : good2 4 7 = true := by kernel_rfl
theorem r4_8 : good2 4 8 = true := by kernel_rfl
theorem r4_9 : good2 4 9 = true := by kernel_rfl
theorem r4_10 : good2 4 10 = true := by kernel_rfl
theorem r4_11 : good2 4 11 = true := by kernel_rfl
end Go.Proofs.YtdndcigppbhhdaaDoorAL.LReg.LRegAp
