/- Function 9, run for some of its cases. Written by a program of this claim's (genruns.py). -/
import Derived.Test.YtdcnbeiadgedpaaKUnaShb
namespace Go.Proofs.YtdcnbeiadgedpaaAK.KUna.KUnaSh
open Go.Proofs Go.Proofs.YtdcnbeiadgedpaaAK Go.Proofs.YtdcnbeiadgedpaaAK.KUna
set_option maxRecDepth 100000
theorem r39 : all1 (fun k => good (call 9 [.num (.pk 7 (Nat.div k 7)), .num (.pk 7 (Nat.mod k 7))] .e 0)) 39 1 = true := by kernel_rfl
theorem r40 : all1 (fun k => good (call 9 [.num (.pk 7 (Nat.div k 7)), .num (.pk 7 (Nat.mod k 7))] .e 0)) 40 1 = true := by kernel_rfl
theorem r41 : all1 (fun k => good (call 9 [.num (.pk 7 (Nat.div k 7)), .num (.pk 7 (Nat.mod k 7))] .e 0)) 41 1 = true := by kernel_rfl
theorem r42 : all1 (fun k => good (call 9 [.num (.pk 7 (Nat.div k 7)), .num (.pk 7 (Nat.mod k 7))] .e 0)) 42 1 = true := by kernel_rfl
theorem r43 : all1 (fun k => good (call 9 [.num (.pk 7 (Nat.div k 7)), .num (.pk 7 (Nat.mod k 7))] .e 0)) 43 1 = true := by kernel_rfl
theorem r44 : all1 (fun k => good (call 9 [.num (.pk 7 (Nat.div k 7)), .num (.pk 7 (Nat.mod k 7))] .e 0)) 44 1 = true := by kernel_rfl
theorem r45 : all1 (fun k => good (call 9 [.num (.pk 7 (Nat.div k 7)), .num (.pk 7 (Nat.mod k 7))] .e 0)) 45 1 = true := by kernel_rfl
theorem r46 : all1 (fun k => good (call 9 [.num (.pk 7 (Nat.div k 7)), .num (.pk 7 (Nat.mod k 7))] .e 0)) 46 1 = true := by kernel_rfl
theorem r47 : all1 (fun k => good (call 9 [.num (.pk 7 (Nat.div k 7)), .num (.pk 7 (Nat.mod k 7))] .e 0)) 47 1 = true := by kernel_rfl
theorem r48 : all1 (fun k => good (call 9 [.num (.pk 7 (Nat.div k 7)), .num (.pk 7 (Nat.mod k 7))] .e 0)) 48 1 = true := by kernel_rfl
end Go.Proofs.YtdcnbeiadgedpaaAK.KUna.KUnaSh
