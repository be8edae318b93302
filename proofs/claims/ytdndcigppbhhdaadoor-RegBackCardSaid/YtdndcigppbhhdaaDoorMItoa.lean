/-
  The contract of the library's Itoa (proved once in the kit), laid at this program: which numbers its bodies and types bear here. (The table of numbers was found by the kit's own tool.)
-/
import Derived.Test.YtdndcigppbhhdaaDoorProg
import Derived.Shelf.Strconv.Itoa3
import Derived.Shelf.Spec.BitsCarry
import Derived.Below
namespace Go.Proofs.YtdndcigppbhhdaaDoorMI
open Go.Proofs Go.Shelf Go.Sort
set_option maxRecDepth 100000

def ren : Ren := {
  f := fun x => match x with
    | 171 => 47
    | 243 => 58
    | 246 => 57
    | 283 => 65
    | 284 => 66
    | 285 => 67
    | 286 => 68
    | 129 => 72
    | 317 => 71
    | 318 => 73
    | 319 => 74
    | 320 => 75
    | 337 => 78
    | 338 => 79
    | n => n,
  t := fun x => match x with
    | 3 => 3
    | 9 => 9
    | 2 => 2
    | 4 => 4
    | 171 => 73
    | 0 => 0
    | 53 => 57
    | 37 => 46
    | 5 => 5
    | 173 => 76
    | 212 => 87
    | 51 => 82
    | 20 => 20
    | 213 => 88
    | 46 => 78
    | 232 => 104
    | 233 => 105
    | n => n,
  g := fun x => match x with
    | 17 => 2
    | 18 => 3
    | 19 => 4
    | n => n }
theorem lays : LaysM.n171 Tryd.prog ren := {
  mixed := Eq.refl true,
  f129 := Eq.trans Tryd.func72 (congrArg some (Eq.refl (Body.n129 ren))),
  f171 := Eq.trans Tryd.func47 (congrArg some (Eq.refl (Body.n171 ren))),
  f243 := Eq.trans Tryd.func58 (congrArg some (Eq.refl (Body.n243 ren))),
  f246 := Eq.trans Tryd.func57 (congrArg some (Eq.refl (Body.n246 ren))),
  f283 := Eq.trans Tryd.func65 (congrArg some (Eq.refl (Body.n283 ren))),
  f284 := Eq.trans Tryd.func66 (congrArg some (Eq.refl (Body.n284 ren))),
  f285 := Eq.trans Tryd.func67 (congrArg some (Eq.refl (Body.n285 ren))),
  f286 := Eq.trans Tryd.func68 (congrArg some (Eq.refl (Body.n286 ren))),
  f317 := Eq.trans Tryd.func71 (congrArg some (Eq.refl (Body.n317 ren))),
  f318 := Eq.trans Tryd.func73 (congrArg some (Eq.refl (Body.n318 ren))),
  f319 := Eq.trans Tryd.func74 (congrArg some (Eq.refl (Body.n319 ren))),
  f320 := Eq.trans Tryd.func75 (congrArg some (Eq.refl (Body.n320 ren))),
  f337 := Eq.trans Tryd.func78 (congrArg some (Eq.refl (Body.n337 ren))),
  f338 := Eq.trans Tryd.func79 (congrArg some (Eq.refl (Body.n338 ren))),
  t0 := Tryd.underlying0, a0 := Tryd.isAgg0, z0 := Tryd.sizeOf0, v0 := Tryd.zeroValue0,
  t2 := Tryd.underlying2, a2 := Tryd.isAgg2, z2 := Tryd.sizeOf2, v2 := Tryd.zeroValue2,
  t3 := Tryd.underlying3, a3 := Tryd.isAgg3, z3 := Tryd.sizeOf3, v3 := Tryd.zeroValue3,
  t4 := Tryd.underlying4, a4 := Tryd.isAgg4, z4 := Tryd.sizeOf4, v4 := Tryd.zeroValue4,
  t5 := Tryd.underlying5, a5 := Tryd.isAgg5, z5 := Tryd.sizeOf5, v5 := Tryd.zeroValue5,
  t9 := Tryd.underlying9, a9 := Tryd.isAgg9, z9 := Tryd.sizeOf9, v9 := Tryd.zeroValue9,
  t20 := Tryd.underlying20, a20 := Tryd.isAgg20, z20 := Tryd.sizeOf20, v20 := Tryd.zeroValue20,
  t37 := Tryd.underlying46, a37 := Tryd.isAgg46, z37 := Tryd.sizeOf46, v37 := Tryd.zeroValue46,
  t46 := Tryd.underlying78, a46 := Tryd.isAgg78, z46 := Tryd.sizeOf78, v46 := Tryd.zeroValue78,
  t51 := Tryd.underlying82, a51 := Tryd.isAgg82, z51 := Tryd.sizeOf82, v51 := Tryd.zeroValue82,
  t53 := Tryd.underlying57, a53 := Tryd.isAgg57, z53 := Tryd.sizeOf57, v53 := Tryd.zeroValue57,
  t171 := Tryd.underlying73, a171 := Tryd.isAgg73, z171 := Tryd.sizeOf73, v171 := Tryd.zeroValue73,
  t173 := Tryd.underlying76, a173 := Tryd.isAgg76, z173 := Tryd.sizeOf76, v173 := Tryd.zeroValue76,
  t212 := Tryd.underlying87, a212 := Tryd.isAgg87, z212 := Tryd.sizeOf87, v212 := Tryd.zeroValue87,
  t213 := Tryd.underlying88, a213 := Tryd.isAgg88, z213 := Tryd.sizeOf88,
  t232 := Tryd.underlying104, a232 := Tryd.isAgg104, z232 := Tryd.sizeOf104, v232 := Tryd.zeroValue104,
  t233 := Tryd.underlying105, a233 := Tryd.isAgg105, z233 := Tryd.sizeOf105, v233 := Tryd.zeroValue105,
  g17 := by kernel_rfl,
  g18 := by kernel_rfl,
  g19 := by kernel_rfl, i0 := Eq.refl (some (some (Value.tuple #[]), 1, 0)), i2 := Eq.refl (some (some (Value.int IntKind.i64 0), 1, 8)), i3 := Eq.refl (some (some (Value.int IntKind.i64 0), 1, 8)), i4 := Eq.refl (some (some (Value.bool false), 1, 1)), i5 := Eq.refl (some (some (Value.int IntKind.u8 0), 1, 1)), i9 := Eq.refl (some (some (Value.string { data := #[] }), 1, 16)), i20 := Eq.refl (some (some Value.nilIface, 1, 16)), i37 := Eq.refl (some (some (Value.slice none 0 0), 1, 24)), i46 := Eq.refl (some (some (Value.int IntKind.u64 0), 1, 8)), i51 := Eq.refl (some (some (Value.int IntKind.u32 0), 1, 4)), i53 := Eq.refl (some (some (Value.int IntKind.u64 0), 1, 8)), i171 := Eq.refl (some (some (Value.agg #[Value.int IntKind.u8 0, Value.int IntKind.u8 0, Value.int IntKind.u8 0, Value.int IntKind.u8 0, Value.int IntKind.u8 0, Value.int IntKind.u8 0, Value.int IntKind.u8 0, Value.int IntKind.u8 0, Value.int IntKind.u8 0, Value.int IntKind.u8 0, Value.int IntKind.u8 0, Value.int IntKind.u8 0, Value.int IntKind.u8 0, Value.int IntKind.u8 0, Value.int IntKind.u8 0, Value.int IntKind.u8 0, Value.int IntKind.u8 0, Value.int IntKind.u8 0, Value.int IntKind.u8 0, Value.int IntKind.u8 0, Value.int IntKind.u8 0, Value.int IntKind.u8 0, Value.int IntKind.u8 0, Value.int IntKind.u8 0]), 24, 24)), i173 := Eq.refl (some (some (Value.tuple #[Value.slice none 0 0, Value.string { data := #[] }]), 1, 0)), i212 := Eq.refl (some (some (Value.agg #[Value.int IntKind.u64 0, Value.int IntKind.u64 0, Value.int IntKind.u64 0, Value.int IntKind.u64 0, Value.int IntKind.u64 0, Value.int IntKind.u64 0, Value.int IntKind.u64 0, Value.int IntKind.u64 0, Value.int IntKind.u64 0, Value.int IntKind.u64 0, Value.int IntKind.u64 0, Value.int IntKind.u64 0, Value.int IntKind.u64 0, Value.int IntKind.u64 0, Value.int IntKind.u64 0, Value.int IntKind.u64 0, Value.int IntKind.u64 0, Value.int IntKind.u64 0, Value.int IntKind.u64 0, Value.int IntKind.u64 0]), 20, 160)), i232 := Eq.refl (some (some (Value.agg #[Value.int IntKind.u8 0, Value.int IntKind.u8 0, Value.int IntKind.u8 0, Value.int IntKind.u8 0, Value.int IntKind.u8 0, Value.int IntKind.u8 0, Value.int IntKind.u8 0, Value.int IntKind.u8 0, Value.int IntKind.u8 0, Value.int IntKind.u8 0, Value.int IntKind.u8 0, Value.int IntKind.u8 0, Value.int IntKind.u8 0, Value.int IntKind.u8 0, Value.int IntKind.u8 0, Value.int IntKind.u8 0, Value.int IntKind.u8 0, Value.int IntKind.u8 0, Value.int IntKind.u8 0, Value.int IntKind.u8 0, Value.int IntKind.u8 0, Value.int IntKind.u8 0, Value.int IntKind.u8 0, Value.int IntKind.u8 0, Value.int IntKind.u8 0, Value.int IntKind.u8 0, Value.int IntKind.u8 0, Value.int IntKind.u8 0, Value.int IntKind.u8 0, Value.int IntKind.u8 0, Value.int IntKind.u8 0, Value.int IntKind.u8 0]), 32, 32)), i233 := Eq.refl (some (some (Value.agg (let y := let y := let y := let y := [Value.int IntKind.u8 0, Value.int IntKind.u8 0, Value.int IntKind.u8 0, Value.int IntKind.u8 0]; Value.int IntKind.u8 0 :: Value.int IntKind.u8 0 :: Value.int IntKind.u8 0 :: Value.int IntKind.u8 0 :: y; let y := Value.int IntKind.u8 0 :: Value.int IntKind.u8 0 :: Value.int IntKind.u8 0 :: Value.int IntKind.u8 0 :: y; Value.int IntKind.u8 0 :: Value.int IntKind.u8 0 :: Value.int IntKind.u8 0 :: Value.int IntKind.u8 0 :: y; let y := let y := Value.int IntKind.u8 0 :: Value.int IntKind.u8 0 :: Value.int IntKind.u8 0 :: Value.int IntKind.u8 0 :: y; Value.int IntKind.u8 0 :: Value.int IntKind.u8 0 :: Value.int IntKind.u8 0 :: Value.int IntKind.u8 0 :: y; let y := Value.int IntKind.u8 0 :: Value.int IntKind.u8 0 :: Value.int IntKind.u8 0 :: Value.int IntKind.u8 0 :: y; Value.int IntKind.u8 0 :: Value.int IntKind.u8 0 :: Value.int IntKind.u8 0 :: Value.int IntKind.u8 0 :: y; let y := let y := let y := Value.int IntKind.u8 0 :: Value.int IntKind.u8 0 :: Value.int IntKind.u8 0 :: Value.int IntKind.u8 0 :: y; Value.int IntKind.u8 0 :: Value.int IntKind.u8 0 :: Value.int IntKind.u8 0 :: Value.int IntKind.u8 0 :: y; let y := Value.int IntKind.u8 0 :: Value.int IntKind.u8 0 :: Value.int IntKind.u8 0 :: Value.int IntKind.u8 0 :: y; Value.int IntKind.u8 0 :: Value.int IntKind.u8 0 :: Value.int IntKind.u8 0 :: Value.int IntKind.u8 0 :: y; let y := let y := Value.int IntKind.u8 0 :: Value.int IntKind.u8 0 :: Value.int IntKind.u8 0 :: Value.int IntKind.u8 0 :: y; Value.int IntKind.u8 0 :: Value.int IntKind.u8 0 :: Value.int IntKind.u8 0 :: Value.int IntKind.u8 0 :: y; let y := Value.int IntKind.u8 0 :: Value.int IntKind.u8 0 :: Value.int IntKind.u8 0 :: Value.int IntKind.u8 0 :: y; Value.int IntKind.u8 0 :: Value.int IntKind.u8 0 :: Value.int IntKind.u8 0 :: Value.int IntKind.u8 0 :: y).toArray), 64, 64)), m17 := Eq.refl (some (ren.g 17)), m18 := Eq.refl (some (ren.g 18)), m19 := Eq.refl (some (ren.g 19)) }
theorem itoa (n : Int) (h0 : -9223372036854775808 ≤ n) (h1 : n ≤ 9223372036854775807) (w : World) (htab : Lib.TabIs Tryd.prog w "internal/strconv.uint64pow10" .u64 Lib.pow10Tab) :
    Calls Tryd.prog 47 #[.int .i64 n] w fun e w' => e = .returned (.string ⟨(Lib.itoa n).toArray⟩) ∧ ∃ k os, w' = grow (w.drewN k) os := Any.strconv_Itoa lays n h0 h1 w htab
theorem below (w : World) (k : Nat) (os : Array Obj) : Go.RowKit.Below w.heap.size w (grow (w.drewN k) os) := by
  refine ⟨?_, ?_, ?_, ?_, fun b hb => ?_⟩
  · first | rfl | (induction k with | zero => rfl | succ k ih => exact ih)
  · first | rfl | simp [grow]
  · first | rfl | (induction k with | zero => rfl | succ k ih => exact ih)
  · simp [grow]
  · show (w.heap ++ os)[b]? = w.heap[b]?
    rw [Array.getElem?_append_left hb]
theorem enter47 (n : Int) (w : World) : (callFunc 47 #[.int .i64 n]).run Tryd.prog w = .ok (.enter 47 #[.int .i64 n]) w := by
  simp only [callFunc, Sem.run_bind, run_program, Result.andThen_ok, Tryd.func47, show (Tryd.f47.name == "runtime.NumGoroutine") = false by kernel_rfl, show Tryd.f47.body.isNone = false by kernel_rfl, Bool.false_eq_true, if_false, Sem.run_pure]
theorem enter75 (w : World) : (callFunc 75 #[.int .u64 16]).run Tryd.prog w = .ok (.enter 75 #[.int .u64 16]) w := by
  simp only [callFunc, Sem.run_bind, run_program, Result.andThen_ok, Tryd.func75, show (Tryd.f75.name == "runtime.NumGoroutine") = false by kernel_rfl, show Tryd.f75.body.isNone = false by kernel_rfl, Bool.false_eq_true, if_false, Sem.run_pure]
theorem add64 (x y c : Nat) (hc : c ≤ 1) (w : World) : (callFunc 62 #[.int .u64 x, .int .u64 y, .int .u64 c]).run Tryd.prog w =
    .ok (.value (.tuple #[.int .u64 (((x + y + c) % 18446744073709551616 : Nat) : Int), .int .u64 (((x + y + c) / 18446744073709551616 : Nat) : Int)])) w := by
  rw [run_callFunc_extern Tryd.func62 (by kernel_rfl) (by kernel_rfl) (by kernel_rfl) (e := add64Entry) (by kernel_rfl), run_add64 x y c (by omega) (by omega) (by omega) (by omega)]
  simp only [Result.andThen]
  congr 5 <;> omega
#print axioms itoa
end Go.Proofs.YtdndcigppbhhdaaDoorMI
