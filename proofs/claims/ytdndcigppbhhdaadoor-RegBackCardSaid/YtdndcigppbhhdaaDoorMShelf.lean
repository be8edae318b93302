/-
  The contract of the library's Fields (proved once in the kit), laid at this program: which numbers its bodies and types bear here. (The table of numbers was found by the kit's own tool.)
-/
import Derived.Test.YtdndcigppbhhdaaDoorProg
import Derived.Shelf.Strings.Fields
namespace Go.Proofs.YtdndcigppbhhdaaDoorMS
open Go.Proofs Go.Shelf

def ren : Ren := {
  f := fun x => match x with
    | 157 => 55
    | 229 => 63
    | 199 => 64
    | 261 => 70
    | 311 => 76
    | 312 => 77
    | n => n,
  t := fun x => match x with
    | 9 => 9
    | 31 => 40
    | 3 => 3
    | 5 => 5
    | 4 => 4
    | 119 => 70
    | 0 => 0
    | 40 => 72
    | 152 => 79
    | 21 => 21
    | 154 => 81
    | 51 => 82
    | 141 => 84
    | 196 => 93
    | 193 => 90
    | 198 => 96
    | 49 => 94
    | 194 => 91
    | 201 => 99
    | 226 => 102
    | 46 => 78
    | 227 => 103
    | n => n,
  g := fun x => match x with
    | 0 => 0
    | 6 => 1
    | n => n }
theorem lays : Lays.n157 Tryd.prog ren := {
  mixed := Eq.refl true,
  f157 := Eq.trans Tryd.func55 (congrArg some (Eq.refl (Body.n157 ren))),
  f199 := Eq.trans Tryd.func64 (congrArg some (Eq.refl (Body.n199 ren))),
  f229 := Eq.trans Tryd.func63 (congrArg some (Eq.refl (Body.n229 ren))),
  f261 := Eq.trans Tryd.func70 (congrArg some (Eq.refl (Body.n261 ren))),
  f311 := Eq.trans Tryd.func76 (congrArg some (Eq.refl (Body.n311 ren))),
  f312 := Eq.trans Tryd.func77 (congrArg some (Eq.refl (Body.n312 ren))),
  t0 := Tryd.underlying0, a0 := Tryd.isAgg0, z0 := Tryd.sizeOf0, v0 := Tryd.zeroValue0,
  t3 := Tryd.underlying3, a3 := Tryd.isAgg3, z3 := Tryd.sizeOf3, v3 := Tryd.zeroValue3,
  t4 := Tryd.underlying4, a4 := Tryd.isAgg4, z4 := Tryd.sizeOf4, v4 := Tryd.zeroValue4,
  t5 := Tryd.underlying5, a5 := Tryd.isAgg5, z5 := Tryd.sizeOf5, v5 := Tryd.zeroValue5,
  t9 := Tryd.underlying9, a9 := Tryd.isAgg9, z9 := Tryd.sizeOf9, v9 := Tryd.zeroValue9,
  t21 := Tryd.underlying21, a21 := Tryd.isAgg21, z21 := Tryd.sizeOf21, v21 := Tryd.zeroValue21,
  t31 := Tryd.underlying40, a31 := Tryd.isAgg40, z31 := Tryd.sizeOf40, v31 := Tryd.zeroValue40,
  t40 := Tryd.underlying72, a40 := Tryd.isAgg72, z40 := Tryd.sizeOf72, v40 := Tryd.zeroValue72,
  t46 := Tryd.underlying78, a46 := Tryd.isAgg78, z46 := Tryd.sizeOf78, v46 := Tryd.zeroValue78,
  t49 := Tryd.underlying94, a49 := Tryd.isAgg94, z49 := Tryd.sizeOf94, v49 := Tryd.zeroValue94,
  t51 := Tryd.underlying82, a51 := Tryd.isAgg82, z51 := Tryd.sizeOf82, v51 := Tryd.zeroValue82,
  t119 := Tryd.underlying70, a119 := Tryd.isAgg70, z119 := Tryd.sizeOf70,
  t141 := Tryd.underlying84, a141 := Tryd.isAgg84, z141 := Tryd.sizeOf84, v141 := Tryd.zeroValue84,
  t152 := Tryd.underlying79, a152 := Tryd.isAgg79, z152 := Tryd.sizeOf79, v152 := Tryd.zeroValue79,
  t154 := Tryd.underlying81, a154 := Tryd.isAgg81, z154 := Tryd.sizeOf81, v154 := Tryd.zeroValue81,
  t193 := Tryd.underlying90, a193 := Tryd.isAgg90, z193 := Tryd.sizeOf90, v193 := Tryd.zeroValue90,
  t194 := Tryd.underlying91, a194 := Tryd.isAgg91, z194 := Tryd.sizeOf91, v194 := Tryd.zeroValue91,
  t196 := Tryd.underlying93, a196 := Tryd.isAgg93, z196 := Tryd.sizeOf93, v196 := Tryd.zeroValue93,
  t198 := Tryd.underlying96, a198 := Tryd.isAgg96, z198 := Tryd.sizeOf96, v198 := Tryd.zeroValue96,
  t201 := Tryd.underlying99, a201 := Tryd.isAgg99, z201 := Tryd.sizeOf99, v201 := Tryd.zeroValue99,
  t226 := Tryd.underlying102, a226 := Tryd.isAgg102, z226 := Tryd.sizeOf102, v226 := Tryd.zeroValue102,
  t227 := Tryd.underlying103, a227 := Tryd.isAgg103, z227 := Tryd.sizeOf103, v227 := Tryd.zeroValue103,
  g0 := by kernel_rfl, g6 := by kernel_rfl }
theorem hi : (Tryd.prog.info? (ren.t 9)).map (fun i => (i.zero, i.size, i.bytes)) = some (some (.string ByteArray.empty), 1, 16) := by kernel_rfl
theorem hg : Tryd.prog.globalNamed "strings.asciiSpace" = some 0 := by kernel_rfl
theorem fields (s : ByteArray) (w : World) (hs : s.size < 4294967281) (hascii : ∀ (j : Nat) b, s.data.toList[j]? = some b → b.toNat < 128) (htab : Lib.TabIs Tryd.prog w "strings.asciiSpace" .u8 Lib.asciiSpaceTab) :
    Calls Tryd.prog 55 #[.string s] w fun e w' =>
      e = .returned (.slice (some ⟨w.heap.size, 0, none⟩) (Lib.fields s.data.toList).length (Lib.fields s.data.toList).length) ∧ w' = w.alloc (.cells ((Lib.fields s.data.toList).map fun l => Value.string ⟨l.toArray⟩).toArray 9) :=
  Any.strings_Fields lays hi hg s w hs hascii htab
theorem enter (s : ByteArray) (w : World) : (callFunc 55 #[.string s]).run Tryd.prog w = .ok (.enter 55 #[.string s]) w := by
  simp only [callFunc, Sem.run_bind, run_program, Result.andThen_ok, Tryd.func55, show (Tryd.f55.name == "runtime.NumGoroutine") = false by kernel_rfl, show Tryd.f55.body.isNone = false by kernel_rfl, Bool.false_eq_true, if_false, Sem.run_pure]
#print axioms fields
end Go.Proofs.YtdndcigppbhhdaaDoorMS
