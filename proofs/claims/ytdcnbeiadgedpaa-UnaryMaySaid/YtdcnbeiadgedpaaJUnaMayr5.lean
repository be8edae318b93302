/- Function 18, run for some of its cases. Written by a program of this claim's (genruns.py). -/
import Derived.Test.YtdcnbeiadgedpaaJUnaMayb
namespace Go.Proofs.YtdcnbeiadgedpaaAJ.JUna.JUnaMay
open Go.Proofs Go.Proofs.YtdcnbeiadgedpaaAJ Go.Proofs.YtdcnbeiadgedpaaAJ.JUna
set_option maxRecDepth 100000
theorem r160 : all1 (fun k => good (call 18 [.num (.pk 174 k)] .e 0)) 160 4 = true := by kernel_rfl
theorem r164 : all1 (fun k => good (call 18 [.num (.pk 174 k)] .e 0)) 164 4 = true := by kernel_rfl
theorem r168 : all1 (fun k => good (call 18 [.num (.pk 174 k)] .e 0)) 168 4 = true := by kernel_rfl
theorem r172 : all1 (fun k => good (call 18 [.num (.pk 174 k)] .e 0)) 172 2 = true := by kernel_rfl
end Go.Proofs.YtdcnbeiadgedpaaAJ.JUna.JUnaMay
