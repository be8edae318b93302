/- The law RegApart: some of its cases, run. Written by a program of this claim's. -/
import Derived.Test.YtdndcigppbhhdaaDoorLRegApb
namespace Go.Proofs.YtdndcigppbhhdaaDoorAL.LReg.LRegAp
open Go.Proofs Go.Proofs.YtdndcigppbhhdaaDoorAL Go.Proofs.YtdndcigppbhhdaaDoorAL.LReg
set_option maxRecDepth 100000
theorem r6_4 : good2 6 4 = true := by kernel_rfl
theorem r6_5 : good2 6 5 = true := by kernel_rfl
theorem r6_6 : good2 6 6 = true := by kernel_rfl
theorem r6_7 : good2 6 7 = true := by kernel_rfl
theorem r6_8 : good2 6 8 = true := by kernel_rfl
theorem r6_9 : good2 6 9 = true := by kernel_rfl
theorem r6_10 : good2 6 10 = true := by kernel_rfl
theorem r6_11 : good2 6 11 = true := by kernel_rfl
end Go.Proofs.YtdndcigppbhhdaaDoorAL.LReg.LRegAp
