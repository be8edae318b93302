/- Function 9, run for some of its cases. Written by a program of this claim's (genruns.py). -/
import Derived.Test.YtdcnbeiadgedpaaKUnaShb
namespace Go.Proofs.YtdcnbeiadgedpaaAK.KUna.KUnaSh
open Go.Proofs Go.Proofs.YtdcnbeiadgedpaaAK Go.Proofs.YtdcnbeiadgedpaaAK.KUna
set_option maxRecDepth 100000
theorem r26 : all1 (fun k => good (call 9 [.num (.pk 7 (Nat.div k 7)), .num (.pk 7 (Nat.mod k 7))] .e 0)) 26 1 = true := by kernel_rfl
theorem r27 : all1 (fun k => good (call 9 [.num (.pk 7 (Nat.div k 7)), .num (.pk 7 (Nat.mod k 7))] .e 0)) 27 1 = true := by kernel_rfl
theorem r28 : all1 (fun k => good (call 9 [.num (.pk 7 (Nat.div k 7)), .num (.pk 7 (Nat.mod k 7))] .e 0)) 28 1 = true := by kernel_rfl
theorem r29 : all1 (fun k => good (call 9 [.num (.pk 7 (Nat.div k 7)), .num (.pk 7 (Nat.mod k 7))] .e 0)) 29 1 = true := by kernel_rfl
theorem r30 : all1 (fun k => good (call 9 [.num (.pk 7 (Nat.div k 7)), .num (.pk 7 (Nat.mod k 7))] .e 0)) 30 1 = true := by kernel_rfl
theorem r31 : all1 (fun k => good (call 9 [.num (.pk 7 (Nat.div k 7)), .num (.pk 7 (Nat.mod k 7))] .e 0)) 31 1 = true := by kernel_rfl
theorem r32 : all1 (fun k => good (call 9 [.num (.pk 7 (Nat.div k 7)), .num (.pk 7 (Nat.mod k 7))] .e 0)) 32 1 = true := by kernel_rfl
theorem r33 : all1 (fun k => good (call 9 [.num (.pk 7 (Nat.div k 7)), .num (.pk 7 (Nat.mod k 7))] .e 0)) 33 1 = true := by kernel_rfl
theorem r34 : all1 (fun k => good (call 9 [.num (.pk 7 (Nat.div k 7)), .num (.pk 7 (Nat.mod k 7))] .e 0)) 34 1 = true := by kernel_rfl
theorem r35 : all1 (fun k => good (call 9 [.num (.pk 7 (Nat.div k 7)), .num (.pk 7 (Nat.mod k 7))] .e 0)) 35 1 = true := by kernel_rfl
theorem r36 : all1 (fun k => good (call 9 [.num (.pk 7 (Nat.div k 7)), .num (.pk 7 (Nat.mod k 7))] .e 0)) 36 1 = true := by kernel_rfl
theorem r37 : all1 (fun k => good (call 9 [.num (.pk 7 (Nat.div k 7)), .num (.pk 7 (Nat.mod k 7))] .e 0)) 37 1 = true := by kernel_rfl
theorem r38 : all1 (fun k => good (call 9 [.num (.pk 7 (Nat.div k 7)), .num (.pk 7 (Nat.mod k 7))] .e 0)) 38 1 = true := by kernel_rfl
end Go.Proofs.YtdcnbeiadgedpaaAK.KUna.KUnaSh
