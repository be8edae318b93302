/- Function 9, run for some of its cases. Written by a program of this claim's (genruns.py). -/
import Derived.Test.YtdcnbeiadgedpaaKUnaShb
namespace Go.Proofs.YtdcnbeiadgedpaaAK.KUna.KUnaSh
open Go.Proofs Go.Proofs.YtdcnbeiadgedpaaAK Go.Proofs.YtdcnbeiadgedpaaAK.KUna
set_option maxRecDepth 100000
theorem r13 : all1 (fun k => good (call 9 [.num (.pk 7 (Nat.div k 7)), .num (.pk 7 (Nat.mod k 7))] .e 0)) 13 1 = true := by kernel_rfl
theorem r14 : all1 (fun k => good (call 9 [.num (.pk 7 (Nat.div k 7)), .num (.pk 7 (Nat.mod k 7))] .e 0)) 14 1 = true := by kernel_rfl
theorem r15 : all1 (fun k => good (call 9 [.num (.pk 7 (Nat.div k 7)), .num (.pk 7 (Nat.mod k 7))] .e 0)) 15 1 = true := by kernel_rfl
theorem r16 : all1 (fun k => good (call 9 [.num (.pk 7 (Nat.div k 7)), .num (.pk 7 (Nat.mod k 7))] .e 0)) 16 1 = true := by kernel_rfl
theorem r17 : all1 (fun k => good (call 9 [.num (.pk 7 (Nat.div k 7)), .num (.pk 7 (Nat.mod k 7))] .e 0)) 17 1 = true := by kernel_rfl
theorem r18 : all1 (fun k => good (call 9 [.num (.pk 7 (Nat.div k 7)), .num (.pk 7 (Nat.mod k 7))] .e 0)) 18 1 = true := by kernel_rfl
theorem r19 : all1 (fun k => good (call 9 [.num (.pk 7 (Nat.div k 7)), .num (.pk 7 (Nat.mod k 7))] .e 0)) 19 1 = true := by kernel_rfl
theorem r20 : all1 (fun k => good (call 9 [.num (.pk 7 (Nat.div k 7)), .num (.pk 7 (Nat.mod k 7))] .e 0)) 20 1 = true := by kernel_rfl
theorem r21 : all1 (fun k => good (call 9 [.num (.pk 7 (Nat.div k 7)), .num (.pk 7 (Nat.mod k 7))] .e 0)) 21 1 = true := by kernel_rfl
theorem r22 : all1 (fun k => good (call 9 [.num (.pk 7 (Nat.div k 7)), .num (.pk 7 (Nat.mod k 7))] .e 0)) 22 1 = true := by kernel_rfl
theorem r23 : all1 (fun k => good (call 9 [.num (.pk 7 (Nat.div k 7)), .num (.pk 7 (Nat.mod k 7))] .e 0)) 23 1 = true := by kernel_rfl
theorem r24 : all1 (fun k => good (call 9 [.num (.pk 7 (Nat.div k 7)), .num (.pk 7 (Nat.mod k 7))] .e 0)) 24 1 = true := by kernel_rfl
theorem r25 : all1 (fun k => good (call 9 [.num (.pk 7 (Nat.div k 7)), .num (.pk 7 (Nat.mod k 7))] .e 0)) 25 1 = true := by kernel_rfl
end Go.Proofs.YtdcnbeiadgedpaaAK.KUna.KUnaSh
