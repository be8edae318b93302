/-
  Hex: what it tells of any number (strconv's FormatUint and FormatInt at base 16, and formatBits, walked; the table's one entry that is read stands).
-/
import Derived.Test.YtdndcigppbhhdaaDoorMTz
import Derived.Test.YtdndcigppbhhdaaDoorWMore
import Derived.Test.YtdndcigppbhhdaaDoorWWords
import Derived.Below
import Derived.WalkKit
import Derived.KernelRfl
import Derived.Deep.LoopGhost
import Derived.Deep.CutBlock
import Derived.Laws.Rows
import Derived.Laws.BitsAllLaws
import Derived.Laws.BytesArg
namespace Go.Proofs.YtdndcigppbhhdaaDoorMHex
open Go.Proofs Go.RowKit Go.Proofs.YtdndcigppbhhdaaDoorW.PrintWords Go.Proofs.YtdndcigppbhhdaaDoorW.PrintMore
set_option linter.unusedVariables false
set_option linter.unusedSimpArgs false
/-- A digit's letter. -/
def dg (d : Nat) : Int := if d < 10 then 48 + d else 87 + d
/-- A number's digits at base 16, ahead of these (at most f + 1). -/
def hx : Nat → Nat → List Int → List Int
  | 0, _, ds => ds
  | f + 1, x, ds => if x < 16 then dg x :: ds else hx f (x / 16) (dg (x % 16) :: ds)
def digs : ByteArray := ⟨#[48, 49, 50, 51, 52, 53, 54, 55, 56, 57, 97, 98, 99, 100, 101, 102, 103, 104, 105, 106, 107, 108, 109, 110, 111, 112, 113, 114, 115, 116, 117, 118, 119, 120, 121, 122]⟩
theorem bt_digs (d : Nat) (h : d < 16) : bt digs (d : Int) = dg d := by
  have : ∀ d : _root_.Fin 16, bt digs ((d : Nat) : Int) = dg d := by decide +kernel
  exact this ⟨d, h⟩
theorem hx_end {i : Int} {x : Nat} (h1 : 49 < i) (h2 : x < 16) (ds : List Int) : hx (i - 49).toNat x ds = dg x :: ds := by
  have e : (i - 49).toNat = (i - 1 - 49).toNat + 1 := by omega
  rw [e, hx, if_pos h2]
theorem lo_i {i : Int} {x : Nat} (h1 : 49 < i) (h2 : 16 ≤ x) (h3 : x < 16 ^ (i - 49).toNat) : 49 < i - 1 := by
  rcases Int.lt_or_le 50 i with h | h
  · omega
  · obtain rfl : i = 50 := by omega
    simp at h3; omega
theorem lo_x {i : Int} {x : Nat} (h1 : 49 < i) (h3 : x < 16 ^ (i - 49).toNat) : x / 16 < 16 ^ (i - 1 - 49).toNat := by
  have e : (i - 49).toNat = (i - 1 - 49).toNat + 1 := by omega
  rw [e, Nat.pow_succ] at h3
  omega
theorem hx_step {i : Int} {x : Nat} (h1 : 49 < i) (h2 : 16 ≤ x) (ds : List Int) : hx (i - 49).toNat x ds = hx (i - 1 - 49).toNat (x / 16) (dg (x % 16) :: ds) := by
  have e : (i - 49).toNat = (i - 1 - 49).toNat + 1 := by omega
  rw [e, hx, if_neg (by omega)]
theorem drop_set {i : Int} {A : Array Value} {ds : List Int} {d : Int} (h1 : 49 < i) (hs : A.size = 65) (hA : A.toList.drop i.toNat = ds.map (Value.int .u8)) : i ≤ 65 → (A.setIfInBounds (i.toNat - 1) (.int .u8 d)).toList.drop (i - 1).toNat = (d :: ds).map (Value.int .u8) := fun h2 => by
  have e : (i - 1).toNat = i.toNat - 1 := by omega
  have hl : i.toNat - 1 < A.toList.length := by simp; omega
  have e2 : i.toNat - 1 + 1 = i.toNat := by omega
  rw [Array.toList_setIfInBounds, e, List.drop_eq_getElem_cons (by simpa using hl), List.getElem_set_self, List.drop_set_of_lt (by omega), e2, hA]
  rfl
theorem bt_d {d : Int} {x : Nat} (h : d = ((x % 16 : Nat) : Int)) : bt (⟨#[48, 49, 50, 51, 52, 53, 54, 55, 56, 57, 97, 98, 99, 100, 101, 102, 103, 104, 105, 106, 107, 108, 109, 110, 111, 112, 113, 114, 115, 116, 117, 118, 119, 120, 121, 122]⟩ : ByteArray) d = dg (x % 16) := by
  subst h
  exact bt_digs _ (by omega)
theorem dg_at (x : Nat) (h : x < 16) : ∀ h' : x < (⟨#[48, 49, 50, 51, 52, 53, 54, 55, 56, 57, 97, 98, 99, 100, 101, 102, 103, 104, 105, 106, 107, 108, 109, 110, 111, 112, 113, 114, 115, 116, 117, 118, 119, 120, 121, 122]⟩ : ByteArray).size, (((⟨#[48, 49, 50, 51, 52, 53, 54, 55, 56, 57, 97, 98, 99, 100, 101, 102, 103, 104, 105, 106, 107, 108, 109, 110, 111, 112, 113, 114, 115, 116, 117, 118, 119, 120, 121, 122]⟩ : ByteArray)[x]'h').toNat : Int) = dg x := fun h' => by
  have := bt_digs x h
  rw [← bt_at digs (x : Int) (by show ((x : Int)).toNat < 36; omega)] at this
  simpa [digs] using this
theorem len88 : Tryd.prog.arrayLen 88 = 65 := by kernel_rfl
theorem elem88 : Tryd.prog.elem 88 = 5 := by kernel_rfl
theorem under88 : Tryd.prog.underlying 88 = some (.array (Tryd.prog.arrayLen 88) (Tryd.prog.elem 88)) := by kernel_rfl
theorem size5 (W : World) : (sizeOf 5).run Tryd.prog W = .ok 1 W := by kernel_rfl
theorem slice65 (g : Nat) (i : Int) (h1 : 49 < i) (h2 : i ≤ 65) : ∀ W : World, (Instr.sliceAt 88 (.pointer (some ⟨g, 0, none⟩)) (some (.int .i64 (i - 1))) none none).run Tryd.prog W = .ok (.slice (some ⟨g, i.toNat - 1, none⟩) (66 - i.toNat) (66 - i.toNat)) W := by
  intro W
  rw [run_sliceAt_array_l W 88 ⟨g, 0, none⟩ under88 .i64 (i - 1) (by omega) (by rw [len88]; omega), len88, elem88, size5]
  simp only [Result.andThen, slicedAt, Nat.mul_one, add_plain]
  have e : (i - 1).toNat = i.toNat - 1 := by omega
  rw [e, if_neg (by omega), show 65 - (i.toNat - 1) = 66 - i.toNat by omega]
theorem conv65 {g : Nat} {i : Int} {A : Array Value} {ds : List Int} {wr : World} (hW : wr.heap[g]? = some (.cells A 88 (0, 0))) (h1 : 49 < i) (h2 : i ≤ 65) (hs : A.size = 65) (hA : A.toList.drop i.toNat = ds.map (Value.int .u8)) (d : Int) :
    (convert 46 9 (.slice (some ⟨g, i.toNat - 1, none⟩) (66 - i.toNat) (66 - i.toNat))).run Tryd.prog (wr.setCell ⟨g, i.toNat - 1, none⟩ (.int .u8 d)) = .ok (.string (strOfNums (d :: ds))) (wr.setCell ⟨g, i.toNat - 1, none⟩ (.int .u8 d)) := by
  have hd := drop_set (d := d) h1 hs hA h2
  have e : (i - 1).toNat = i.toNat - 1 := by omega
  have hl : (d :: ds).length = 66 - i.toNat := by
    have := congrArg List.length hA
    simp at this
    simp
    omega
  refine run_convert_bytes_arg _ 46 5 Tryd.underlying46 Tryd.underlying5 g (i.toNat - 1) (66 - i.toNat) (66 - i.toNat) (d :: ds) hl (fun j hj => ?_) 9 Tryd.underlying9
  rw [blk_cell (blk_set hW _ _)]
  have h3 : (A.setIfInBounds (i.toNat - 1) (.int .u8 d)).toList[i.toNat - 1 + j]? = ((d :: ds).map (Value.int .u8))[j]? := by
    rw [← hd, e, List.getElem?_drop]
  rw [← Array.getElem?_toList, h3, List.getElem?_map, List.getElem?_eq_getElem (by omega)]
  simp only [Option.map_some, List.getD_eq_getElem?_getD]
  rw [List.getElem?_eq_getElem (by omega)]
  rfl
theorem and15 (x : Nat) (h : x < 18446744073709551616) : Go.bits .and .u64 (x : Int) 15 = ((x % 16 : Nat) : Int) := by
  have := u64_and_nat x 15 h (by decide)
  rw [show ((15 : Nat) : Int) = 15 from rfl] at this
  rw [this, Nat.and_two_pow_sub_one_eq_mod x 4]
theorem pow2 (w : World) : Calls Tryd.prog 74 #[.int .i64 16] w fun e w' => e = .returned (.bool true) ∧ w = w' := by
  go_enter Tryd.func74, Tryd.ntmps74
  go_wp2
  go_ret
  exact ⟨rfl, rfl⟩
theorem tz (w : World) (h : w.cell? ⟨4, 15, none⟩ = some (.int .u8 4)) : Calls Tryd.prog 75 #[.int .u64 16] w fun e w' => e = .returned (.int .i64 4) ∧ w = w' :=
  (Go.Proofs.YtdndcigppbhhdaaDoorMTz.tz16 w h).mono fun _ _ ⟨h1, h2⟩ => ⟨h1, h2.symm⟩
set_option maxHeartbeats 800000 in
set_option maxRecDepth 100000 in
theorem bits16 (u : Nat) (hu : u < 18446744073709551616) (w : World) (hdb : w.cell? ⟨4, 15, none⟩ = some (.int .u8 4)) : Calls Tryd.prog 68 #[.slice none 0 0, .int .u64 u, .int .i64 16, .bool false, .bool false] w fun e w' => e = .returned (.tuple #[.slice none 0 0, .string (strOfNums (hx 16 u []))]) ∧ Below w.heap.size w w' := by
  go_enter Tryd.func68, Tryd.ntmps68
  go_wp2_with (first | (go_at_call 74; (with_reducible refine (pow2 _).mono ?_); rintro e w5 ⟨rfl, rfl⟩) | (go_at_call 75; (with_reducible refine (tz _ (pw_cell_below hb hdb)).mono ?_); rintro e w6 ⟨rfl, rfl⟩) | ((with_reducible refine gate_dst (N := 12) rfl ?_); refine box_event ?hg (N := 12) ?hd (cs := Tryd.zeroCells88) (t := 88) ?hr ?_; (case hd => rfl); (case hg => rfl); (case hr => first | (go_simp; done) | (go_simp; rfl)); intro g hg w1 hbox hb))
  subst hg
  go_loopw [1, 13] (fun v1 v13 wr => ∃ (x : Nat) (i : Int) (A : Array Value) (ds : List Int), v1 = .int .u64 x ∧ v13 = .int .i64 i ∧ 49 < i ∧ i ≤ 65 ∧ x < 18446744073709551616 ∧ Aside0 (x < 16 ^ (i - 49).toNat) ∧ Aside0 (hx 16 u [] = hx (i - 49).toNat x ds) ∧ Aside0 (A.toList.drop i.toNat = ds.map (Value.int .u8)) ∧ Aside0 (A.size = 65) ∧ Aside0 (wr.heap[w.heap.size]? = some (.cells A 88 (0, 0))) ∧ Aside0 (Below w.heap.size w wr)) (fun v1 v13 wr => (intOf v13).toNat)
  case atStart => exact ⟨u, 65, Tryd.zeroCells88, [], rfl, rfl, by omega, by omega, hu, ⟨by simpa using hu⟩, ⟨rfl⟩, ⟨by kernel_rfl⟩, ⟨by kernel_rfl⟩, ⟨hbox⟩, ⟨hb⟩⟩
  case round =>
    obtain ⟨x, i, A, ds, rfl, rfl, hi1, hi2, hx0, HX, HD, HA, HS, HW, HB⟩ := hrel
    clear hbox hb hdb
    by_cases hlt : 16 ≤ x
    · have c1 : decide ((16 : Int) ≤ (x : Int)) = true := decide_eq_true (by omega)
      obtain ⟨d, hd⟩ : ∃ d : Int, Go.bits .and .u64 (x : Int) 15 = d := ⟨_, rfl⟩
      have HDX : Aside0 (d = ((x % 16 : Nat) : Int)) := ⟨by rw [← hd, and15 x hx0]⟩
      have p := eq_true (show 0 ≤ d by have := HDX.out; omega)
      have q := eq_true (show d < 36 by have := HDX.out; omega)
      have hxd := bt_at digs d
      unfold digs at hxd
      have hcell : wr.cell? ⟨w.heap.size, i.toNat - 1, none⟩ = some (A[i.toNat - 1]'(by have := HS.out; omega)) := (blk_cell HW.out _).trans (Array.getElem?_eq_getElem _)
      have hfz := blk_frozen HW.out (i.toNat - 1)
      go_wp2
      go_roundw
      case measure => simp [intOf]; omega
      case rel => exact ⟨x / 16, i - 1, A.setIfInBounds (i.toNat - 1) (.int .u8 (dg (x % 16))), dg (x % 16) :: ds, by go_num, rfl, by have := HX.out; exact lo_i hi1 hlt this, by omega, by omega, ⟨lo_x hi1 HX.out⟩, ⟨HD.out.trans (hx_step hi1 hlt ds)⟩, ⟨drop_set hi1 HS.out HA.out hi2⟩, ⟨by rw [Array.size_setIfInBounds]; exact HS.out⟩, ⟨by rw [bt_d HDX.out]; exact blk_set HW.out _ _⟩, ⟨below_set HB.out (Nat.le_refl _)⟩⟩
    · have c1 : decide ((16 : Int) ≤ (x : Int)) = false := decide_eq_false (by omega)
      have p := eq_true (show (0 : Int) ≤ (x : Int) by omega)
      have q := eq_true (show (x : Int) < 36 by omega)
      have hxd := dg_at x (by omega)
      have hcell : wr.cell? ⟨w.heap.size, i.toNat - 1, none⟩ = some (A[i.toNat - 1]'(by have := HS.out; omega)) := (blk_cell HW.out _).trans (Array.getElem?_eq_getElem _)
      have hfz := blk_frozen HW.out (i.toNat - 1)
      have hsl := slice65 w.heap.size i hi1 hi2
      have hcv := conv65 HW.out hi1 hi2 HS.out HA.out (dg x)
      go_wp2
      have hfin := (HD.out.trans (hx_end hi1 (show x < 16 by omega) ds)).symm
      go_ret2
      exact ⟨by rw [hfin]; rfl, below_set HB.out (Nat.le_refl _)⟩
theorem hx_len : ∀ (f x : Nat) (ds : List Int), (hx f x ds).length ≤ f + ds.length
  | 0, _, _ => by simp [hx]
  | f + 1, x, ds => by
    rw [hx]
    split
    · simp; omega
    · have := hx_len f (x / 16) (dg (x % 16) :: ds)
      simp at this; omega
theorem hx_size (u : Nat) : (strOfNums (hx 16 u [])).size ≤ 16 := by rw [strOfNums_size]; exact hx_len 16 u []
set_option maxHeartbeats 800000 in
theorem fu16 (v : Int) (h0 : 0 ≤ v) (h1 : v < 18446744073709551616) (w : World) (hdb : w.cell? ⟨4, 15, none⟩ = some (.int .u8 4)) : Calls Tryd.prog 56 #[.int .u64 v, .int .i64 16] w fun e w' => e = .returned (.string (strOfNums (hx 16 v.toNat []))) ∧ Below w.heap.size w w' := by
  obtain ⟨u, rfl⟩ := Int.eq_ofNat_of_zero_le h0
  rw [Int.toNat_natCast]
  have HU := Aside0.mk h1
  clear h0 h1
  go_enter Tryd.func56, Tryd.ntmps56
  go_wp2_with (go_at_call 68; (with_reducible refine (bits16 u (by have := HU.out; omega) _ hdb).mono ?_); rintro e w5 ⟨rfl, hb⟩)
  go_ret
  exact ⟨rfl, hb⟩
set_option maxHeartbeats 800000 in
theorem fi16 (v : Int) (h0 : 0 ≤ v) (h1 : v < 9223372036854775808) (w : World) (hdb : w.cell? ⟨4, 15, none⟩ = some (.int .u8 4)) : Calls Tryd.prog 57 #[.int .i64 v, .int .i64 16] w fun e w' => e = .returned (.string (strOfNums (hx 16 v.toNat []))) ∧ Below w.heap.size w w' := by
  obtain ⟨u, rfl⟩ := Int.eq_ofNat_of_zero_le h0
  rw [Int.toNat_natCast]
  have hneg : decide ((u : Int) < 0) = false := decide_eq_false (by omega)
  have hw : IntKind.u64.wrap (u : Int) = (u : Int) := by rw [IntKind.wrap_u64]; omega
  have HU := Aside0.mk h1
  clear h0 h1
  go_enter Tryd.func57, Tryd.ntmps57
  go_wp2_with (go_at_call 68; (with_reducible refine (bits16 u (by have := HU.out; omega) _ hdb).mono ?_); rintro e w5 ⟨rfl, hb⟩)
  go_ret
  exact ⟨rfl, hb⟩
theorem su16 (v : Int) (h0 : 0 ≤ v) (h1 : v < 18446744073709551616) (w : World) (hdb : w.cell? ⟨4, 15, none⟩ = some (.int .u8 4)) : Calls Tryd.prog 44 #[.int .u64 v, .int .i64 16] w fun e w' => e = .returned (.string (strOfNums (hx 16 v.toNat []))) ∧ Below w.heap.size w w' := by
  have HF := Aside0.mk (fu16 v h0 h1 w hdb)
  clear h0 h1
  go_enter Tryd.func44, Tryd.ntmps44
  go_wp2_with (go_at_call 56; (with_reducible refine HF.out.mono ?_); rintro e w5 ⟨rfl, hb⟩)
  go_ret
  exact ⟨rfl, hb⟩
theorem si16 (v : Int) (h0 : 0 ≤ v) (h1 : v < 9223372036854775808) (w : World) (hdb : w.cell? ⟨4, 15, none⟩ = some (.int .u8 4)) : Calls Tryd.prog 45 #[.int .i64 v, .int .i64 16] w fun e w' => e = .returned (.string (strOfNums (hx 16 v.toNat []))) ∧ Below w.heap.size w w' := by
  have HF := Aside0.mk (fi16 v h0 h1 w hdb)
  clear h0 h1
  go_enter Tryd.func45, Tryd.ntmps45
  go_wp2_with (go_at_call 57; (with_reducible refine HF.out.mono ?_); rintro e w5 ⟨rfl, hb⟩)
  go_ret
  exact ⟨rfl, hb⟩
/-- Hex. -/
def hexB (n : Int) : ByteArray := if n < 0 then (⟨#[45, 48, 120]⟩ : ByteArray) ++ strOfNums (hx 16 (-n).toNat []) else (⟨#[48, 120]⟩ : ByteArray) ++ strOfNums (hx 16 n.toNat [])
theorem hex (n : Int) (h0 : -9223372036854775808 ≤ n) (h1 : n ≤ 9223372036854775807) (w : World) (hdb : w.cell? ⟨4, 15, none⟩ = some (.int .u8 4)) : Calls Tryd.prog 26 #[.int .i64 n] w fun e w' => e = .returned (.string (hexB n)) ∧ Below w.heap.size w w' := by
  unfold hexB
  by_cases hn : n < 0
  · rw [if_pos hn]
    have hneg : decide (n < 0) = true := decide_eq_true hn
    have HF := Aside0.mk (su16 (-n) (by omega) (by omega) w hdb)
    have HW : Aside0 (IntKind.u64.wrap (-(IntKind.u64.wrap n)) = -n) := ⟨by rw [IntKind.wrap_u64, IntKind.wrap_u64]; omega⟩
    have HS := hx_size (-n).toNat
    clear h0 h1 hn
    go_enter Tryd.func26, Tryd.ntmps26
    go_wp2_with (go_at_call 44; rw [HW.out]; (with_reducible refine HF.out.mono ?_); rintro e w5 ⟨rfl, hb⟩)
    go_ret
    exact ⟨rfl, hb⟩
  · rw [if_neg hn]
    have hneg : decide (n < 0) = false := decide_eq_false hn
    have HF := Aside0.mk (si16 n (by omega) (by omega) w hdb)
    have HS := hx_size n.toNat
    clear h0 h1 hn
    go_enter Tryd.func26, Tryd.ntmps26
    go_wp2_with (go_at_call 45; (with_reducible refine HF.out.mono ?_); rintro e w5 ⟨rfl, hb⟩)
    go_ret
    exact ⟨rfl, hb⟩
end Go.Proofs.YtdndcigppbhhdaaDoorMHex
