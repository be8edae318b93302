/- The law RegTells, run for some of its cases. Written by a program of this claim's. -/
import Derived.Test.YtdndcigppbhhdaaDoorLRegTeb
namespace Go.Proofs.YtdndcigppbhhdaaDoorAL.LReg.LRegTe
open Go.Proofs Go.Proofs.YtdndcigppbhhdaaDoorAL Go.Proofs.YtdndcigppbhhdaaDoorAL.LReg
set_option maxRecDepth 100000
theorem r2_16 : all1 (fun j => good (call 11 [.agg [ccase 2, ncase j]] .e 0)) 16 7 = true := by kernel_rfl
theorem r3_0 : all1 (fun j => good (call 11 [.agg [ccase 3, ncase j]] .e 0)) 0 8 = true := by kernel_rfl
theorem r3_8 : all1 (fun j => good (call 11 [.agg [ccase 3, ncase j]] .e 0)) 8 8 = true := by kernel_rfl
theorem r3_16 : all1 (fun j => good (call 11 [.agg [ccase 3, ncase j]] .e 0)) 16 7 = true := by kernel_rfl
end Go.Proofs.YtdndcigppbhhdaaDoorAL.LReg.LRegTe
