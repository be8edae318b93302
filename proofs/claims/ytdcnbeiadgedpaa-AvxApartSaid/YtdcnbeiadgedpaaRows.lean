/-
  No cell of these rows narrows 'for every input' (looked for: loops, veiled, ifaces, maps, wideKeys, modest, calm, conditions, laid).
  DERIVED. THE GIVEN ROWS OF THIS SEAT. 17 by the template 'for every input the law returns true; each argument reads behind the call as it read before'; 0 by the template 'total and deterministic' (their statements: YtdcnbeiadgedpaaTotals.lean).
  GIVEN WITH THE SEED: the statements are not yours to turn. If you find one false, say at which input.
  Laid BY PROGRAM, IN A SANDBOX (cutbox-rows.mjs): the forced cells as the released guide's own fill.sh prints them over the translation 6a8a2cea7870748e… (all of the seat's roots in one cut). By AI agents, Wed Nov 11 2026. No macro, syntax, notation, axiom, sorry.
-/
import Derived.Test.YtdcnbeiadgedpaaChecked
import GoSem.Claim
import GoSem.ClaimJoined
import GoSem.ClaimMapViews
import Derived.JoinedTies
import Derived.KernelRfl
namespace Go.Proofs.Ytdcnbeiadgedpaa
/- THE CELL 'sum', in the pinned program and in every row, IS THE sha256 OF THE DUMP (.gsa) THAT YtdcnbeiadgedpaaProg.lean LOADS. Nothing in Lean hashes anything: it is a label: what it is worth is what the hold of that sum in a sandbox is worth. -/
noncomputable def Try.pinned : Pinned := { name := "ytdcnbeiadgedpaa", sum := "6a8a2cea7870748ebaed92be709ffee853d4a23c53a0a2692b76ec90b5da1904", checked := Try.checked }
namespace Rows
def none {H : Type} : Left H := { results := [], args := [] }

/-- 'linotypelaw18.AvxRows': WHATEVER THE INPUT: true; the input reads as it did. -/
def avxRowsSpec : ChangeSpec := { name := "avxRows", fn := fun _ => fun
  | [] => { results := [.lit (.bool true)], args := [] }
  | _ => none }
def avxRowsRow : OpenClaim := { program := "ytdcnbeiadgedpaa", sum := "6a8a2cea7870748ebaed92be709ffee853d4a23c53a0a2692b76ec90b5da1904", func := "linotype/linotypelaw18.AvxRows", spec := "avxRows", unfollowed := true, recurses := true, apart := false }
def AvxRowsSaid : Prop := avxRowsRow.holds Try.pinned (OpenSpec.ofChange avxRowsSpec)

/-- ITS FALSE NEIGHBOUR: 'it returns false'. Refute it at one input. -/
def avxRowsWrong : ChangeSpec := { name := "avxRows", fn := fun _ => fun
  | [] => { results := [.lit (.bool false)], args := [] }
  | _ => none }
def AvxRowsWrongFalsely : Prop := avxRowsRow.holds Try.pinned (OpenSpec.ofChange avxRowsWrong)

/-- 'linotypelaw18.AvxOf': WHATEVER THE INPUT: true; the input reads as it did. -/
def avxOfSpec : ChangeSpec := { name := "avxOf", fn := fun _ => fun
  | [d] => { results := [.lit (.bool true)], args := [d] }
  | _ => none }
def avxOfRow : OpenClaim := { program := "ytdcnbeiadgedpaa", sum := "6a8a2cea7870748ebaed92be709ffee853d4a23c53a0a2692b76ec90b5da1904", func := "linotype/linotypelaw18.AvxOf", spec := "avxOf", unfollowed := true, recurses := true, apart := false }
def AvxOfSaid : Prop := avxOfRow.holds Try.pinned (OpenSpec.ofChange avxOfSpec)

/-- ITS FALSE NEIGHBOUR: 'it returns false'. Refute it at one input. -/
def avxOfWrong : ChangeSpec := { name := "avxOf", fn := fun _ => fun
  | [d] => { results := [.lit (.bool false)], args := [d] }
  | _ => none }
def AvxOfWrongFalsely : Prop := avxOfRow.holds Try.pinned (OpenSpec.ofChange avxOfWrong)

/-- 'linotypelaw18.AvxKnown': WHATEVER THE INPUT: true; the input reads as it did. -/
def avxKnownSpec : ChangeSpec := { name := "avxKnown", fn := fun _ => fun
  | [] => { results := [.lit (.bool true)], args := [] }
  | _ => none }
def avxKnownRow : OpenClaim := { program := "ytdcnbeiadgedpaa", sum := "6a8a2cea7870748ebaed92be709ffee853d4a23c53a0a2692b76ec90b5da1904", func := "linotype/linotypelaw18.AvxKnown", spec := "avxKnown", unfollowed := true, recurses := true, apart := false }
def AvxKnownSaid : Prop := avxKnownRow.holds Try.pinned (OpenSpec.ofChange avxKnownSpec)

/-- ITS FALSE NEIGHBOUR: 'it returns false'. Refute it at one input. -/
def avxKnownWrong : ChangeSpec := { name := "avxKnown", fn := fun _ => fun
  | [] => { results := [.lit (.bool false)], args := [] }
  | _ => none }
def AvxKnownWrongFalsely : Prop := avxKnownRow.holds Try.pinned (OpenSpec.ofChange avxKnownWrong)

/-- 'linotypelaw18.AvxApart': WHATEVER THE INPUT: true; the input reads as it did. -/
def avxApartSpec : ChangeSpec := { name := "avxApart", fn := fun _ => fun
  | [d1, d2] => { results := [.lit (.bool true)], args := [d1, d2] }
  | _ => none }
def avxApartRow : OpenClaim := { program := "ytdcnbeiadgedpaa", sum := "6a8a2cea7870748ebaed92be709ffee853d4a23c53a0a2692b76ec90b5da1904", func := "linotype/linotypelaw18.AvxApart", spec := "avxApart", unfollowed := true, recurses := true, apart := false }
def AvxApartSaid : Prop := avxApartRow.holds Try.pinned (OpenSpec.ofChange avxApartSpec)

/-- ITS FALSE NEIGHBOUR: 'it returns false'. Refute it at one input. -/
def avxApartWrong : ChangeSpec := { name := "avxApart", fn := fun _ => fun
  | [d1, d2] => { results := [.lit (.bool false)], args := [d1, d2] }
  | _ => none }
def AvxApartWrongFalsely : Prop := avxApartRow.holds Try.pinned (OpenSpec.ofChange avxApartWrong)

/-- 'linotypelaw18.AvxPairs': WHATEVER THE INPUT: true; the input reads as it did. -/
def avxPairsSpec : ChangeSpec := { name := "avxPairs", fn := fun _ => fun
  | [d] => { results := [.lit (.bool true)], args := [d] }
  | _ => none }
def avxPairsRow : OpenClaim := { program := "ytdcnbeiadgedpaa", sum := "6a8a2cea7870748ebaed92be709ffee853d4a23c53a0a2692b76ec90b5da1904", func := "linotype/linotypelaw18.AvxPairs", spec := "avxPairs", unfollowed := true, recurses := true, apart := false }
def AvxPairsSaid : Prop := avxPairsRow.holds Try.pinned (OpenSpec.ofChange avxPairsSpec)

/-- ITS FALSE NEIGHBOUR: 'it returns false'. Refute it at one input. -/
def avxPairsWrong : ChangeSpec := { name := "avxPairs", fn := fun _ => fun
  | [d] => { results := [.lit (.bool false)], args := [d] }
  | _ => none }
def AvxPairsWrongFalsely : Prop := avxPairsRow.holds Try.pinned (OpenSpec.ofChange avxPairsWrong)

/-- 'linotypelaw14.UnaryOf': WHATEVER THE INPUT: true; the input reads as it did. -/
def unaryOfSpec : ChangeSpec := { name := "unaryOf", fn := fun _ => fun
  | [d] => { results := [.lit (.bool true)], args := [d] }
  | _ => none }
def unaryOfRow : OpenClaim := { program := "ytdcnbeiadgedpaa", sum := "6a8a2cea7870748ebaed92be709ffee853d4a23c53a0a2692b76ec90b5da1904", func := "linotype/linotypelaw14.UnaryOf", spec := "unaryOf", apart := false }
def UnaryOfSaid : Prop := unaryOfRow.holds Try.pinned (OpenSpec.ofChange unaryOfSpec)

/-- ITS FALSE NEIGHBOUR: 'it returns false'. Refute it at one input. -/
def unaryOfWrong : ChangeSpec := { name := "unaryOf", fn := fun _ => fun
  | [d] => { results := [.lit (.bool false)], args := [d] }
  | _ => none }
def UnaryOfWrongFalsely : Prop := unaryOfRow.holds Try.pinned (OpenSpec.ofChange unaryOfWrong)

/-- 'linotypelaw14.UnaryShifts': WHATEVER THE INPUT: true; the input reads as it did. -/
def unaryShiftsSpec : ChangeSpec := { name := "unaryShifts", fn := fun _ => fun
  | [d1, d2] => { results := [.lit (.bool true)], args := [d1, d2] }
  | _ => none }
def unaryShiftsRow : OpenClaim := { program := "ytdcnbeiadgedpaa", sum := "6a8a2cea7870748ebaed92be709ffee853d4a23c53a0a2692b76ec90b5da1904", func := "linotype/linotypelaw14.UnaryShifts", spec := "unaryShifts", apart := false }
def UnaryShiftsSaid : Prop := unaryShiftsRow.holds Try.pinned (OpenSpec.ofChange unaryShiftsSpec)

/-- ITS FALSE NEIGHBOUR: 'it returns false'. Refute it at one input. -/
def unaryShiftsWrong : ChangeSpec := { name := "unaryShifts", fn := fun _ => fun
  | [d1, d2] => { results := [.lit (.bool false)], args := [d1, d2] }
  | _ => none }
def UnaryShiftsWrongFalsely : Prop := unaryShiftsRow.holds Try.pinned (OpenSpec.ofChange unaryShiftsWrong)

/-- 'linotypelaw14.UnaryApart': WHATEVER THE INPUT: true; the input reads as it did. -/
def unaryApartSpec : ChangeSpec := { name := "unaryApart", fn := fun _ => fun
  | [d1, d2] => { results := [.lit (.bool true)], args := [d1, d2] }
  | _ => none }
def unaryApartRow : OpenClaim := { program := "ytdcnbeiadgedpaa", sum := "6a8a2cea7870748ebaed92be709ffee853d4a23c53a0a2692b76ec90b5da1904", func := "linotype/linotypelaw14.UnaryApart", spec := "unaryApart", apart := false }
def UnaryApartSaid : Prop := unaryApartRow.holds Try.pinned (OpenSpec.ofChange unaryApartSpec)

/-- ITS FALSE NEIGHBOUR: 'it returns false'. Refute it at one input. -/
def unaryApartWrong : ChangeSpec := { name := "unaryApart", fn := fun _ => fun
  | [d1, d2] => { results := [.lit (.bool false)], args := [d1, d2] }
  | _ => none }
def UnaryApartWrongFalsely : Prop := unaryApartRow.holds Try.pinned (OpenSpec.ofChange unaryApartWrong)

/-- 'linotypelaw14.UnaryKnown': WHATEVER THE INPUT: true; the input reads as it did. -/
def unaryKnownSpec : ChangeSpec := { name := "unaryKnown", fn := fun _ => fun
  | [] => { results := [.lit (.bool true)], args := [] }
  | _ => none }
def unaryKnownRow : OpenClaim := { program := "ytdcnbeiadgedpaa", sum := "6a8a2cea7870748ebaed92be709ffee853d4a23c53a0a2692b76ec90b5da1904", func := "linotype/linotypelaw14.UnaryKnown", spec := "unaryKnown", apart := false }
def UnaryKnownSaid : Prop := unaryKnownRow.holds Try.pinned (OpenSpec.ofChange unaryKnownSpec)

/-- ITS FALSE NEIGHBOUR: 'it returns false'. Refute it at one input. -/
def unaryKnownWrong : ChangeSpec := { name := "unaryKnown", fn := fun _ => fun
  | [] => { results := [.lit (.bool false)], args := [] }
  | _ => none }
def UnaryKnownWrongFalsely : Prop := unaryKnownRow.holds Try.pinned (OpenSpec.ofChange unaryKnownWrong)

/-- 'linotypelaw17.SseRows': WHATEVER THE INPUT: true; the input reads as it did. -/
def sseRowsSpec : ChangeSpec := { name := "sseRows", fn := fun _ => fun
  | [] => { results := [.lit (.bool true)], args := [] }
  | _ => none }
def sseRowsRow : OpenClaim := { program := "ytdcnbeiadgedpaa", sum := "6a8a2cea7870748ebaed92be709ffee853d4a23c53a0a2692b76ec90b5da1904", func := "linotype/linotypelaw17.SseRows", spec := "sseRows", unfollowed := true, recurses := true, apart := false }
def SseRowsSaid : Prop := sseRowsRow.holds Try.pinned (OpenSpec.ofChange sseRowsSpec)

/-- ITS FALSE NEIGHBOUR: 'it returns false'. Refute it at one input. -/
def sseRowsWrong : ChangeSpec := { name := "sseRows", fn := fun _ => fun
  | [] => { results := [.lit (.bool false)], args := [] }
  | _ => none }
def SseRowsWrongFalsely : Prop := sseRowsRow.holds Try.pinned (OpenSpec.ofChange sseRowsWrong)

/-- 'linotypelaw17.SseOf': WHATEVER THE INPUT: true; the input reads as it did. -/
def sseOfSpec : ChangeSpec := { name := "sseOf", fn := fun _ => fun
  | [d] => { results := [.lit (.bool true)], args := [d] }
  | _ => none }
def sseOfRow : OpenClaim := { program := "ytdcnbeiadgedpaa", sum := "6a8a2cea7870748ebaed92be709ffee853d4a23c53a0a2692b76ec90b5da1904", func := "linotype/linotypelaw17.SseOf", spec := "sseOf", unfollowed := true, recurses := true, apart := false }
def SseOfSaid : Prop := sseOfRow.holds Try.pinned (OpenSpec.ofChange sseOfSpec)

/-- ITS FALSE NEIGHBOUR: 'it returns false'. Refute it at one input. -/
def sseOfWrong : ChangeSpec := { name := "sseOf", fn := fun _ => fun
  | [d] => { results := [.lit (.bool false)], args := [d] }
  | _ => none }
def SseOfWrongFalsely : Prop := sseOfRow.holds Try.pinned (OpenSpec.ofChange sseOfWrong)

/-- 'linotypelaw17.SseKnown': WHATEVER THE INPUT: true; the input reads as it did. -/
def sseKnownSpec : ChangeSpec := { name := "sseKnown", fn := fun _ => fun
  | [] => { results := [.lit (.bool true)], args := [] }
  | _ => none }
def sseKnownRow : OpenClaim := { program := "ytdcnbeiadgedpaa", sum := "6a8a2cea7870748ebaed92be709ffee853d4a23c53a0a2692b76ec90b5da1904", func := "linotype/linotypelaw17.SseKnown", spec := "sseKnown", unfollowed := true, recurses := true, apart := false }
def SseKnownSaid : Prop := sseKnownRow.holds Try.pinned (OpenSpec.ofChange sseKnownSpec)

/-- ITS FALSE NEIGHBOUR: 'it returns false'. Refute it at one input. -/
def sseKnownWrong : ChangeSpec := { name := "sseKnown", fn := fun _ => fun
  | [] => { results := [.lit (.bool false)], args := [] }
  | _ => none }
def SseKnownWrongFalsely : Prop := sseKnownRow.holds Try.pinned (OpenSpec.ofChange sseKnownWrong)

/-- 'linotypelaw17.SseApart': WHATEVER THE INPUT: true; the input reads as it did. -/
def sseApartSpec : ChangeSpec := { name := "sseApart", fn := fun _ => fun
  | [d1, d2] => { results := [.lit (.bool true)], args := [d1, d2] }
  | _ => none }
def sseApartRow : OpenClaim := { program := "ytdcnbeiadgedpaa", sum := "6a8a2cea7870748ebaed92be709ffee853d4a23c53a0a2692b76ec90b5da1904", func := "linotype/linotypelaw17.SseApart", spec := "sseApart", unfollowed := true, recurses := true, apart := false }
def SseApartSaid : Prop := sseApartRow.holds Try.pinned (OpenSpec.ofChange sseApartSpec)

/-- ITS FALSE NEIGHBOUR: 'it returns false'. Refute it at one input. -/
def sseApartWrong : ChangeSpec := { name := "sseApart", fn := fun _ => fun
  | [d1, d2] => { results := [.lit (.bool false)], args := [d1, d2] }
  | _ => none }
def SseApartWrongFalsely : Prop := sseApartRow.holds Try.pinned (OpenSpec.ofChange sseApartWrong)

/-- 'linotypelaw17.SseAll': WHATEVER THE INPUT: true; the input reads as it did. -/
def sseAllSpec : ChangeSpec := { name := "sseAll", fn := fun _ => fun
  | [d] => { results := [.lit (.bool true)], args := [d] }
  | _ => none }
def sseAllRow : OpenClaim := { program := "ytdcnbeiadgedpaa", sum := "6a8a2cea7870748ebaed92be709ffee853d4a23c53a0a2692b76ec90b5da1904", func := "linotype/linotypelaw17.SseAll", spec := "sseAll", unfollowed := true, recurses := true, apart := false }
def SseAllSaid : Prop := sseAllRow.holds Try.pinned (OpenSpec.ofChange sseAllSpec)

/-- ITS FALSE NEIGHBOUR: 'it returns false'. Refute it at one input. -/
def sseAllWrong : ChangeSpec := { name := "sseAll", fn := fun _ => fun
  | [d] => { results := [.lit (.bool false)], args := [d] }
  | _ => none }
def SseAllWrongFalsely : Prop := sseAllRow.holds Try.pinned (OpenSpec.ofChange sseAllWrong)

/-- 'linotypelaw18.AvxMay': WHATEVER THE INPUT: true; the input reads as it did. -/
def avxMaySpec : ChangeSpec := { name := "avxMay", fn := fun _ => fun
  | [d] => { results := [.lit (.bool true)], args := [d] }
  | _ => none }
def avxMayRow : OpenClaim := { program := "ytdcnbeiadgedpaa", sum := "6a8a2cea7870748ebaed92be709ffee853d4a23c53a0a2692b76ec90b5da1904", func := "linotype/linotypelaw18.AvxMay", spec := "avxMay", unfollowed := true, recurses := true, apart := false }
def AvxMaySaid : Prop := avxMayRow.holds Try.pinned (OpenSpec.ofChange avxMaySpec)

/-- ITS FALSE NEIGHBOUR: 'it returns false'. Refute it at one input. -/
def avxMayWrong : ChangeSpec := { name := "avxMay", fn := fun _ => fun
  | [d] => { results := [.lit (.bool false)], args := [d] }
  | _ => none }
def AvxMayWrongFalsely : Prop := avxMayRow.holds Try.pinned (OpenSpec.ofChange avxMayWrong)

/-- 'linotypelaw14.UnaryMay': WHATEVER THE INPUT: true; the input reads as it did. -/
def unaryMaySpec : ChangeSpec := { name := "unaryMay", fn := fun _ => fun
  | [d] => { results := [.lit (.bool true)], args := [d] }
  | _ => none }
def unaryMayRow : OpenClaim := { program := "ytdcnbeiadgedpaa", sum := "6a8a2cea7870748ebaed92be709ffee853d4a23c53a0a2692b76ec90b5da1904", func := "linotype/linotypelaw14.UnaryMay", spec := "unaryMay", unfollowed := true, recurses := true, apart := false }
def UnaryMaySaid : Prop := unaryMayRow.holds Try.pinned (OpenSpec.ofChange unaryMaySpec)

/-- ITS FALSE NEIGHBOUR: 'it returns false'. Refute it at one input. -/
def unaryMayWrong : ChangeSpec := { name := "unaryMay", fn := fun _ => fun
  | [d] => { results := [.lit (.bool false)], args := [d] }
  | _ => none }
def UnaryMayWrongFalsely : Prop := unaryMayRow.holds Try.pinned (OpenSpec.ofChange unaryMayWrong)

/-- 'linotypelaw17.SseMay': WHATEVER THE INPUT: true; the input reads as it did. -/
def sseMaySpec : ChangeSpec := { name := "sseMay", fn := fun _ => fun
  | [d] => { results := [.lit (.bool true)], args := [d] }
  | _ => none }
def sseMayRow : OpenClaim := { program := "ytdcnbeiadgedpaa", sum := "6a8a2cea7870748ebaed92be709ffee853d4a23c53a0a2692b76ec90b5da1904", func := "linotype/linotypelaw17.SseMay", spec := "sseMay", unfollowed := true, recurses := true, apart := false }
def SseMaySaid : Prop := sseMayRow.holds Try.pinned (OpenSpec.ofChange sseMaySpec)

/-- ITS FALSE NEIGHBOUR: 'it returns false'. Refute it at one input. -/
def sseMayWrong : ChangeSpec := { name := "sseMay", fn := fun _ => fun
  | [d] => { results := [.lit (.bool false)], args := [d] }
  | _ => none }
def SseMayWrongFalsely : Prop := sseMayRow.holds Try.pinned (OpenSpec.ofChange sseMayWrong)

/- THE SECOND FORM. 'bulk': how many values and letters a reading holds, each counted each time it is reached (what is shared counts as often as it is met; a slice's spare places count too). A statement '..UptoSaid' is the law's where the arguments, and the package variables that the reading takes, are together of bulk at most 1048576: NARROWER than '..Said'. Prove '..Said' where nothing that the law and all that it calls make is longer than what came in: it says more and counts as full. Else prove '..UptoSaid'. A law counts once. -/
mutual
def uptoBulk {H : Type} : DataW H → Nat
  | .lit (.string bytes) => bytes.length + 1
  | .lit _ => 1
  | .nil => 1
  | .ptr d => uptoBulk d + 1
  | .slice elems spare => uptoBulkAll elems + uptoBulkAll spare + 1
  | .agg parts => uptoBulkAll parts + 1
  | .iface _ d => uptoBulk d + 1
  | .map entries => uptoBulkEntries entries + 1
  | .held _ => 1
def uptoBulkAll {H : Type} : List (DataW H) → Nat
  | [] => 0
  | d :: r => uptoBulk d + uptoBulkAll r
def uptoBulkEntries {H : Type} : List (Lit × DataW H) → Nat
  | [] => 0
  | x :: r => uptoBulkEntry x + uptoBulkEntries r
def uptoBulkEntry {H : Type} : Lit × DataW H → Nat
  | (.string bytes, d) => bytes.length + uptoBulk d + 1
  | (_, d) => uptoBulk d + 1
 end
def uptoSmall : (H : Type) → List (DataW H) → Bool := fun _ ds => decide (uptoBulkAll ds ≤ 1048576)
def OpenSpec.upto (s : _root_.Go.ChangeSpec) : _root_.Go.OpenSpec := { _root_.Go.OpenSpec.ofChange s with cond := some uptoSmall }

/-- 'linotypelaw18.AvxRows', WHERE WHAT IT READS IS OF BULK AT MOST 1048576: true; the input reads as it did. -/
def avxRowsUptoRow : OpenClaim := { program := "ytdcnbeiadgedpaa", sum := "6a8a2cea7870748ebaed92be709ffee853d4a23c53a0a2692b76ec90b5da1904", func := "linotype/linotypelaw18.AvxRows", spec := "avxRows", unfollowed := true, recurses := true, apart := false, narrowed := true }
def AvxRowsUptoSaid : Prop := avxRowsUptoRow.holds Try.pinned (OpenSpec.upto avxRowsSpec)

/-- 'linotypelaw18.AvxOf', WHERE WHAT IT READS IS OF BULK AT MOST 1048576: true; the input reads as it did. -/
def avxOfUptoRow : OpenClaim := { program := "ytdcnbeiadgedpaa", sum := "6a8a2cea7870748ebaed92be709ffee853d4a23c53a0a2692b76ec90b5da1904", func := "linotype/linotypelaw18.AvxOf", spec := "avxOf", unfollowed := true, recurses := true, apart := false, narrowed := true }
def AvxOfUptoSaid : Prop := avxOfUptoRow.holds Try.pinned (OpenSpec.upto avxOfSpec)

/-- 'linotypelaw18.AvxKnown', WHERE WHAT IT READS IS OF BULK AT MOST 1048576: true; the input reads as it did. -/
def avxKnownUptoRow : OpenClaim := { program := "ytdcnbeiadgedpaa", sum := "6a8a2cea7870748ebaed92be709ffee853d4a23c53a0a2692b76ec90b5da1904", func := "linotype/linotypelaw18.AvxKnown", spec := "avxKnown", unfollowed := true, recurses := true, apart := false, narrowed := true }
def AvxKnownUptoSaid : Prop := avxKnownUptoRow.holds Try.pinned (OpenSpec.upto avxKnownSpec)

/-- 'linotypelaw18.AvxApart', WHERE WHAT IT READS IS OF BULK AT MOST 1048576: true; the input reads as it did. -/
def avxApartUptoRow : OpenClaim := { program := "ytdcnbeiadgedpaa", sum := "6a8a2cea7870748ebaed92be709ffee853d4a23c53a0a2692b76ec90b5da1904", func := "linotype/linotypelaw18.AvxApart", spec := "avxApart", unfollowed := true, recurses := true, apart := false, narrowed := true }
def AvxApartUptoSaid : Prop := avxApartUptoRow.holds Try.pinned (OpenSpec.upto avxApartSpec)

/-- 'linotypelaw18.AvxPairs', WHERE WHAT IT READS IS OF BULK AT MOST 1048576: true; the input reads as it did. -/
def avxPairsUptoRow : OpenClaim := { program := "ytdcnbeiadgedpaa", sum := "6a8a2cea7870748ebaed92be709ffee853d4a23c53a0a2692b76ec90b5da1904", func := "linotype/linotypelaw18.AvxPairs", spec := "avxPairs", unfollowed := true, recurses := true, apart := false, narrowed := true }
def AvxPairsUptoSaid : Prop := avxPairsUptoRow.holds Try.pinned (OpenSpec.upto avxPairsSpec)

/-- 'linotypelaw14.UnaryOf', WHERE WHAT IT READS IS OF BULK AT MOST 1048576: true; the input reads as it did. -/
def unaryOfUptoRow : OpenClaim := { program := "ytdcnbeiadgedpaa", sum := "6a8a2cea7870748ebaed92be709ffee853d4a23c53a0a2692b76ec90b5da1904", func := "linotype/linotypelaw14.UnaryOf", spec := "unaryOf", apart := false, narrowed := true }
def UnaryOfUptoSaid : Prop := unaryOfUptoRow.holds Try.pinned (OpenSpec.upto unaryOfSpec)

/-- 'linotypelaw14.UnaryShifts', WHERE WHAT IT READS IS OF BULK AT MOST 1048576: true; the input reads as it did. -/
def unaryShiftsUptoRow : OpenClaim := { program := "ytdcnbeiadgedpaa", sum := "6a8a2cea7870748ebaed92be709ffee853d4a23c53a0a2692b76ec90b5da1904", func := "linotype/linotypelaw14.UnaryShifts", spec := "unaryShifts", apart := false, narrowed := true }
def UnaryShiftsUptoSaid : Prop := unaryShiftsUptoRow.holds Try.pinned (OpenSpec.upto unaryShiftsSpec)

/-- 'linotypelaw14.UnaryApart', WHERE WHAT IT READS IS OF BULK AT MOST 1048576: true; the input reads as it did. -/
def unaryApartUptoRow : OpenClaim := { program := "ytdcnbeiadgedpaa", sum := "6a8a2cea7870748ebaed92be709ffee853d4a23c53a0a2692b76ec90b5da1904", func := "linotype/linotypelaw14.UnaryApart", spec := "unaryApart", apart := false, narrowed := true }
def UnaryApartUptoSaid : Prop := unaryApartUptoRow.holds Try.pinned (OpenSpec.upto unaryApartSpec)

/-- 'linotypelaw14.UnaryKnown', WHERE WHAT IT READS IS OF BULK AT MOST 1048576: true; the input reads as it did. -/
def unaryKnownUptoRow : OpenClaim := { program := "ytdcnbeiadgedpaa", sum := "6a8a2cea7870748ebaed92be709ffee853d4a23c53a0a2692b76ec90b5da1904", func := "linotype/linotypelaw14.UnaryKnown", spec := "unaryKnown", apart := false, narrowed := true }
def UnaryKnownUptoSaid : Prop := unaryKnownUptoRow.holds Try.pinned (OpenSpec.upto unaryKnownSpec)

/-- 'linotypelaw17.SseRows', WHERE WHAT IT READS IS OF BULK AT MOST 1048576: true; the input reads as it did. -/
def sseRowsUptoRow : OpenClaim := { program := "ytdcnbeiadgedpaa", sum := "6a8a2cea7870748ebaed92be709ffee853d4a23c53a0a2692b76ec90b5da1904", func := "linotype/linotypelaw17.SseRows", spec := "sseRows", unfollowed := true, recurses := true, apart := false, narrowed := true }
def SseRowsUptoSaid : Prop := sseRowsUptoRow.holds Try.pinned (OpenSpec.upto sseRowsSpec)

/-- 'linotypelaw17.SseOf', WHERE WHAT IT READS IS OF BULK AT MOST 1048576: true; the input reads as it did. -/
def sseOfUptoRow : OpenClaim := { program := "ytdcnbeiadgedpaa", sum := "6a8a2cea7870748ebaed92be709ffee853d4a23c53a0a2692b76ec90b5da1904", func := "linotype/linotypelaw17.SseOf", spec := "sseOf", unfollowed := true, recurses := true, apart := false, narrowed := true }
def SseOfUptoSaid : Prop := sseOfUptoRow.holds Try.pinned (OpenSpec.upto sseOfSpec)

/-- 'linotypelaw17.SseKnown', WHERE WHAT IT READS IS OF BULK AT MOST 1048576: true; the input reads as it did. -/
def sseKnownUptoRow : OpenClaim := { program := "ytdcnbeiadgedpaa", sum := "6a8a2cea7870748ebaed92be709ffee853d4a23c53a0a2692b76ec90b5da1904", func := "linotype/linotypelaw17.SseKnown", spec := "sseKnown", unfollowed := true, recurses := true, apart := false, narrowed := true }
def SseKnownUptoSaid : Prop := sseKnownUptoRow.holds Try.pinned (OpenSpec.upto sseKnownSpec)

/-- 'linotypelaw17.SseApart', WHERE WHAT IT READS IS OF BULK AT MOST 1048576: true; the input reads as it did. -/
def sseApartUptoRow : OpenClaim := { program := "ytdcnbeiadgedpaa", sum := "6a8a2cea7870748ebaed92be709ffee853d4a23c53a0a2692b76ec90b5da1904", func := "linotype/linotypelaw17.SseApart", spec := "sseApart", unfollowed := true, recurses := true, apart := false, narrowed := true }
def SseApartUptoSaid : Prop := sseApartUptoRow.holds Try.pinned (OpenSpec.upto sseApartSpec)

/-- 'linotypelaw17.SseAll', WHERE WHAT IT READS IS OF BULK AT MOST 1048576: true; the input reads as it did. -/
def sseAllUptoRow : OpenClaim := { program := "ytdcnbeiadgedpaa", sum := "6a8a2cea7870748ebaed92be709ffee853d4a23c53a0a2692b76ec90b5da1904", func := "linotype/linotypelaw17.SseAll", spec := "sseAll", unfollowed := true, recurses := true, apart := false, narrowed := true }
def SseAllUptoSaid : Prop := sseAllUptoRow.holds Try.pinned (OpenSpec.upto sseAllSpec)

/-- 'linotypelaw18.AvxMay', WHERE WHAT IT READS IS OF BULK AT MOST 1048576: true; the input reads as it did. -/
def avxMayUptoRow : OpenClaim := { program := "ytdcnbeiadgedpaa", sum := "6a8a2cea7870748ebaed92be709ffee853d4a23c53a0a2692b76ec90b5da1904", func := "linotype/linotypelaw18.AvxMay", spec := "avxMay", unfollowed := true, recurses := true, apart := false, narrowed := true }
def AvxMayUptoSaid : Prop := avxMayUptoRow.holds Try.pinned (OpenSpec.upto avxMaySpec)

/-- 'linotypelaw14.UnaryMay', WHERE WHAT IT READS IS OF BULK AT MOST 1048576: true; the input reads as it did. -/
def unaryMayUptoRow : OpenClaim := { program := "ytdcnbeiadgedpaa", sum := "6a8a2cea7870748ebaed92be709ffee853d4a23c53a0a2692b76ec90b5da1904", func := "linotype/linotypelaw14.UnaryMay", spec := "unaryMay", unfollowed := true, recurses := true, apart := false, narrowed := true }
def UnaryMayUptoSaid : Prop := unaryMayUptoRow.holds Try.pinned (OpenSpec.upto unaryMaySpec)

/-- 'linotypelaw17.SseMay', WHERE WHAT IT READS IS OF BULK AT MOST 1048576: true; the input reads as it did. -/
def sseMayUptoRow : OpenClaim := { program := "ytdcnbeiadgedpaa", sum := "6a8a2cea7870748ebaed92be709ffee853d4a23c53a0a2692b76ec90b5da1904", func := "linotype/linotypelaw17.SseMay", spec := "sseMay", unfollowed := true, recurses := true, apart := false, narrowed := true }
def SseMayUptoSaid : Prop := sseMayUptoRow.holds Try.pinned (OpenSpec.upto sseMaySpec)

end Rows
end Go.Proofs.Ytdcnbeiadgedpaa
