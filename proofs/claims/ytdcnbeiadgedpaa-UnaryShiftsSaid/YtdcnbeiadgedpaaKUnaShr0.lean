/- Function 9, run for some of its cases. Written by a program of this claim's (genruns.py). -/
import Derived.Test.YtdcnbeiadgedpaaKUnaShb
namespace Go.Proofs.YtdcnbeiadgedpaaAK.KUna.KUnaSh
open Go.Proofs Go.Proofs.YtdcnbeiadgedpaaAK Go.Proofs.YtdcnbeiadgedpaaAK.KUna
set_option maxRecDepth 100000
theorem r0 : all1 (fun k => good (call 9 [.num (.pk 7 (Nat.div k 7)), .num (.pk 7 (Nat.mod k 7))] .e 0)) 0 1 = true := by kernel_rfl
theorem r1 : all1 (fun k => good (call 9 [.num (.pk 7 (Nat.div k 7)), .num (.pk 7 (Nat.mod k 7))] .e 0)) 1 1 = true := by kernel_rfl
theorem r2 : all1 (fun k => good (call 9 [.num (.pk 7 (Nat.div k 7)), .num (.pk 7 (Nat.mod k 7))] .e 0)) 2 1 = true := by kernel_rfl
theorem r3 : all1 (fun k => good (call 9 [.num (.pk 7 (Nat.div k 7)), .num (.pk 7 (Nat.mod k 7))] .e 0)) 3 1 = true := by kernel_rfl
theorem r4 : all1 (fun k => good (call 9 [.num (.pk 7 (Nat.div k 7)), .num (.pk 7 (Nat.mod k 7))] .e 0)) 4 1 = true := by kernel_rfl
theorem r5 : all1 (fun k => good (call 9 [.num (.pk 7 (Nat.div k 7)), .num (.pk 7 (Nat.mod k 7))] .e 0)) 5 1 = true := by kernel_rfl
theorem r6 : all1 (fun k => good (call 9 [.num (.pk 7 (Nat.div k 7)), .num (.pk 7 (Nat.mod k 7))] .e 0)) 6 1 = true := by kernel_rfl
theorem r7 : all1 (fun k => good (call 9 [.num (.pk 7 (Nat.div k 7)), .num (.pk 7 (Nat.mod k 7))] .e 0)) 7 1 = true := by kernel_rfl
theorem r8 : all1 (fun k => good (call 9 [.num (.pk 7 (Nat.div k 7)), .num (.pk 7 (Nat.mod k 7))] .e 0)) 8 1 = true := by kernel_rfl
theorem r9 : all1 (fun k => good (call 9 [.num (.pk 7 (Nat.div k 7)), .num (.pk 7 (Nat.mod k 7))] .e 0)) 9 1 = true := by kernel_rfl
theorem r10 : all1 (fun k => good (call 9 [.num (.pk 7 (Nat.div k 7)), .num (.pk 7 (Nat.mod k 7))] .e 0)) 10 1 = true := by kernel_rfl
theorem r11 : all1 (fun k => good (call 9 [.num (.pk 7 (Nat.div k 7)), .num (.pk 7 (Nat.mod k 7))] .e 0)) 11 1 = true := by kernel_rfl
theorem r12 : all1 (fun k => good (call 9 [.num (.pk 7 (Nat.div k 7)), .num (.pk 7 (Nat.mod k 7))] .e 0)) 12 1 = true := by kernel_rfl
end Go.Proofs.YtdcnbeiadgedpaaAK.KUna.KUnaSh
