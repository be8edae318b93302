/- Functions and contracts: written by a program for this claim. -/
import Derived.Test.YtdndcigppbhhdaaDoorQLiteralBackx0
import Derived.Test.YtdndcigppbhhdaaDoorQLiteralBackx1
import Derived.Test.YtdndcigppbhhdaaDoorQLiteralBackx2
namespace Go.Proofs.YtdndcigppbhhdaaDoor.QLiteralBack
open Go.RowKit Go.Proofs.YtdndcigppbhhdaaDoorW.PrintWords Go.Proofs.YtdndcigppbhhdaaDoorW.PrintLast Go.Proofs.YtdndcigppbhhdaaDoorW.PrintMore
attribute [local go_sem] max2_int min2_int max_two min_two max_three min_three max_four min_four   -- for this text's walks alone
set_option linter.unusedVariables false
set_option linter.unusedSimpArgs false

/-! ### linotypelaw02_LiteralBack: function 7 -/
mutual
def linotypelaw02_LiteralBack.j0 : Nat → Int → ByteArray → Int → Bool → Bool → Option (Bool)
  | 0, _, _, _, _, _ => none
  | k + 1, x0, x1, x2, x7, x8 => if (x1.size : Int) > 50 then (linotypelaw02_LiteralBack.j1 k x0 x1 x2 x7 true) else (linotypelaw02_LiteralBack.j1 k x0 x1 x2 x7 x8)
def linotypelaw02_LiteralBack.j1 : Nat → Int → ByteArray → Int → Bool → Bool → Option (Bool)
  | 0, _, _, _, _, _ => none
  | k + 1, x0, x1, x2, x7, x48 => if x48 = true then (some x7) else ((literal_Hex.f x0).bind fun t119 => ((literal_Dec.f x0).bind fun t120 => (linotypelaw02_LiteralBack.l0 k x0 x1 x2 x7 (([t119, t120] : List ByteArray)) 0)))
def linotypelaw02_LiteralBack.l0 : Nat → Int → ByteArray → Int → Bool → List ByteArray → Int → Option (Bool)
  | 0, _, _, _, _, _, _ => none
  | k + 1, x0, x1, x2, x7, x9, x10 => if x10 < (x9.length : Int) then (if 0 ≤ x10 then (if x0 < 0 then (if ((rdOf ByteArray.empty x9 x10).size : Int) < 2 then (linotypelaw02_LiteralBack.j3 k x0 x1 x2 x7 x9 x10 (rdOf ByteArray.empty x9 x10) true) else (if 0 < ((rdOf ByteArray.empty x9 x10).size : Int) then (linotypelaw02_LiteralBack.j3 k x0 x1 x2 x7 x9 x10 (rdOf ByteArray.empty x9 x10) ((bt (rdOf ByteArray.empty x9 x10) 0) != 45)) else (none))) else (if x1.size + (rdOf ByteArray.empty x9 x10).size ≤ 9223372036854775807 then ((some (([x2] : List Int) : List Int)).bind fun y133 => (if (x1 ++ (rdOf ByteArray.empty x9 x10)).size + (strOfNums y133).size ≤ 9223372036854775807 then ((literal_Scan.f k ((x1 ++ (rdOf ByteArray.empty x9 x10)) ++ (strOfNums y133)) (x1.size : Int)).bind fun bt136 => (if bt136.1 = x0 then (if bt136.2.1 = (wrap64 ((x1.size : Int) + ((rdOf ByteArray.empty x9 x10).size : Int))) then (if bt136.2.2.1 = 0 then (linotypelaw02_LiteralBack.l0 k x0 x1 x2 x7 x9 (wrap64 (x10 + 1))) else (some false)) else (some false)) else (some false))) else (none))) else (none))) else (none)) else (some x7)
def linotypelaw02_LiteralBack.j3 : Nat → Int → ByteArray → Int → Bool → List ByteArray → Int → ByteArray → Bool → Option (Bool)
  | 0, _, _, _, _, _, _, _, _ => none
  | k + 1, x0, x1, x2, x7, x9, x10, x11, x75 => if x75 = true then (some false) else (if 1 ≤ (x11.size : Int) then (if x1.size + (x11.extract 1 x11.size).size ≤ 9223372036854775807 then ((some (([x2] : List Int) : List Int)).bind fun y125 => (if (x1 ++ (x11.extract 1 x11.size)).size + (strOfNums y125).size ≤ 9223372036854775807 then ((literal_Scan.f k ((x1 ++ (x11.extract 1 x11.size)) ++ (strOfNums y125)) (x1.size : Int)).bind fun bt128 => (if bt128.1 = (wrap64 (-x0)) then (if bt128.2.1 = (wrap64 ((x1.size : Int) + ((x11.extract 1 x11.size).size : Int))) then (if bt128.2.2.1 = 0 then (linotypelaw02_LiteralBack.l0 k x0 x1 x2 x7 x9 (wrap64 (x10 + 1))) else (some false)) else (some false)) else (some false))) else (none))) else (none)) else (none))
end
def linotypelaw02_LiteralBack.f (k : Nat) (a0 : Int) (a1 : ByteArray) (a2 : Int) : Option (Bool) := (linotypelaw02_awake.f).bind fun t118 => (if a2 = 95 then (linotypelaw02_LiteralBack.j0 k a0 a1 a2 t118 true) else (if a2 ≥ 48 then (if a2 ≤ 57 then (linotypelaw02_LiteralBack.j0 k a0 a1 a2 t118 true) else (if a2 ≥ 97 then (if a2 ≤ 122 then (linotypelaw02_LiteralBack.j0 k a0 a1 a2 t118 true) else (if a2 ≥ 65 then (linotypelaw02_LiteralBack.j0 k a0 a1 a2 t118 (decide (a2 ≤ 90))) else (linotypelaw02_LiteralBack.j0 k a0 a1 a2 t118 false))) else (if a2 ≥ 65 then (linotypelaw02_LiteralBack.j0 k a0 a1 a2 t118 (decide (a2 ≤ 90))) else (linotypelaw02_LiteralBack.j0 k a0 a1 a2 t118 false)))) else (if a2 ≥ 97 then (if a2 ≤ 122 then (linotypelaw02_LiteralBack.j0 k a0 a1 a2 t118 true) else (if a2 ≥ 65 then (linotypelaw02_LiteralBack.j0 k a0 a1 a2 t118 (decide (a2 ≤ 90))) else (linotypelaw02_LiteralBack.j0 k a0 a1 a2 t118 false))) else (if a2 ≥ 65 then (linotypelaw02_LiteralBack.j0 k a0 a1 a2 t118 (decide (a2 ≤ 90))) else (linotypelaw02_LiteralBack.j0 k a0 a1 a2 t118 false)))))
theorem linotypelaw02_LiteralBack.mono_l : ∀ k, (∀ y0 y1 y2 y3 y4, LeO (linotypelaw02_LiteralBack.j0 k y0 y1 y2 y3 y4) (linotypelaw02_LiteralBack.j0 (k + 1) y0 y1 y2 y3 y4)) ∧ (∀ y0 y1 y2 y3 y4, LeO (linotypelaw02_LiteralBack.j1 k y0 y1 y2 y3 y4) (linotypelaw02_LiteralBack.j1 (k + 1) y0 y1 y2 y3 y4)) ∧ (∀ y0 y1 y2 y3 y4 y5, LeO (linotypelaw02_LiteralBack.l0 k y0 y1 y2 y3 y4 y5) (linotypelaw02_LiteralBack.l0 (k + 1) y0 y1 y2 y3 y4 y5)) ∧ (∀ y0 y1 y2 y3 y4 y5 y6 y7, LeO (linotypelaw02_LiteralBack.j3 k y0 y1 y2 y3 y4 y5 y6 y7) (linotypelaw02_LiteralBack.j3 (k + 1) y0 y1 y2 y3 y4 y5 y6 y7))
  | 0 => ⟨fun _ _ _ _ _ r h => by simp [linotypelaw02_LiteralBack.j0] at h, fun _ _ _ _ _ r h => by simp [linotypelaw02_LiteralBack.j1] at h, fun _ _ _ _ _ _ r h => by simp [linotypelaw02_LiteralBack.l0] at h, fun _ _ _ _ _ _ _ _ r h => by simp [linotypelaw02_LiteralBack.j3] at h⟩
  | k + 1 => by
    obtain ⟨ih0, ih1, ih2, ih3⟩ := linotypelaw02_LiteralBack.mono_l k
    refine ⟨?_, ?_, ?_, ?_⟩
    · intro y0 y1 y2 y3 y4
      unfold linotypelaw02_LiteralBack.j0
      repeat' first
      | (with_reducible exact ih0 _ _ _ _ _)
      | (with_reducible exact ih1 _ _ _ _ _)
      | (with_reducible exact ih2 _ _ _ _ _ _)
      | (with_reducible exact ih3 _ _ _ _ _ _ _ _)
      | (with_reducible exact literal_Scan.mono _ _ _)
      | (with_reducible exact LeO.refl _)
      | (with_reducible exact LeO.none _)
      | (with_reducible refine LeO.ite ?_ ?_)
      | (with_reducible refine LeO.bind ?_ (fun _ => ?_))
      | exact ih0 _ _ _ _ _
      | exact ih1 _ _ _ _ _
      | exact ih2 _ _ _ _ _ _
      | exact ih3 _ _ _ _ _ _ _ _
      | exact literal_Scan.mono _ _ _
      | exact LeO.none _
      | refine LeO.ite ?_ ?_
      | refine LeO.bind ?_ (fun _ => ?_)
    · intro y0 y1 y2 y3 y4
      unfold linotypelaw02_LiteralBack.j1
      repeat' first
      | (with_reducible exact ih0 _ _ _ _ _)
      | (with_reducible exact ih1 _ _ _ _ _)
      | (with_reducible exact ih2 _ _ _ _ _ _)
      | (with_reducible exact ih3 _ _ _ _ _ _ _ _)
      | (with_reducible exact literal_Scan.mono _ _ _)
      | (with_reducible exact LeO.refl _)
      | (with_reducible exact LeO.none _)
      | (with_reducible refine LeO.ite ?_ ?_)
      | (with_reducible refine LeO.bind ?_ (fun _ => ?_))
      | exact ih0 _ _ _ _ _
      | exact ih1 _ _ _ _ _
      | exact ih2 _ _ _ _ _ _
      | exact ih3 _ _ _ _ _ _ _ _
      | exact literal_Scan.mono _ _ _
      | exact LeO.none _
      | refine LeO.ite ?_ ?_
      | refine LeO.bind ?_ (fun _ => ?_)
    · intro y0 y1 y2 y3 y4 y5
      unfold linotypelaw02_LiteralBack.l0
      repeat' first
      | (with_reducible exact ih0 _ _ _ _ _)
      | (with_reducible exact ih1 _ _ _ _ _)
      | (with_reducible exact ih2 _ _ _ _ _ _)
      | (with_reducible exact ih3 _ _ _ _ _ _ _ _)
      | (with_reducible exact literal_Scan.mono _ _ _)
      | (with_reducible exact LeO.refl _)
      | (with_reducible exact LeO.none _)
      | (with_reducible refine LeO.ite ?_ ?_)
      | (with_reducible refine LeO.bind ?_ (fun _ => ?_))
      | exact ih0 _ _ _ _ _
      | exact ih1 _ _ _ _ _
      | exact ih2 _ _ _ _ _ _
      | exact ih3 _ _ _ _ _ _ _ _
      | exact literal_Scan.mono _ _ _
      | exact LeO.none _
      | refine LeO.ite ?_ ?_
      | refine LeO.bind ?_ (fun _ => ?_)
    · intro y0 y1 y2 y3 y4 y5 y6 y7
      unfold linotypelaw02_LiteralBack.j3
      repeat' first
      | (with_reducible exact ih0 _ _ _ _ _)
      | (with_reducible exact ih1 _ _ _ _ _)
      | (with_reducible exact ih2 _ _ _ _ _ _)
      | (with_reducible exact ih3 _ _ _ _ _ _ _ _)
      | (with_reducible exact literal_Scan.mono _ _ _)
      | (with_reducible exact LeO.refl _)
      | (with_reducible exact LeO.none _)
      | (with_reducible refine LeO.ite ?_ ?_)
      | (with_reducible refine LeO.bind ?_ (fun _ => ?_))
      | exact ih0 _ _ _ _ _
      | exact ih1 _ _ _ _ _
      | exact ih2 _ _ _ _ _ _
      | exact ih3 _ _ _ _ _ _ _ _
      | exact literal_Scan.mono _ _ _
      | exact LeO.none _
      | refine LeO.ite ?_ ?_
      | refine LeO.bind ?_ (fun _ => ?_)
theorem linotypelaw02_LiteralBack.mono : ∀ a0 a1 a2 k, LeO (linotypelaw02_LiteralBack.f k a0 a1 a2) (linotypelaw02_LiteralBack.f (k + 1) a0 a1 a2) := by
  intro a0 a1 a2 k
  obtain ⟨ih0, ih1, ih2, ih3⟩ := linotypelaw02_LiteralBack.mono_l k
  unfold linotypelaw02_LiteralBack.f
  repeat' first
      | (with_reducible exact ih0 _ _ _ _ _)
      | (with_reducible exact ih1 _ _ _ _ _)
      | (with_reducible exact ih2 _ _ _ _ _ _)
      | (with_reducible exact ih3 _ _ _ _ _ _ _ _)
      | (with_reducible exact literal_Scan.mono _ _ _)
      | (with_reducible exact LeO.refl _)
      | (with_reducible exact LeO.none _)
      | (with_reducible refine LeO.ite ?_ ?_)
      | (with_reducible refine LeO.bind ?_ (fun _ => ?_))
      | exact ih0 _ _ _ _ _
      | exact ih1 _ _ _ _ _
      | exact ih2 _ _ _ _ _ _
      | exact ih3 _ _ _ _ _ _ _ _
      | exact literal_Scan.mono _ _ _
      | exact LeO.none _
      | refine LeO.ite ?_ ?_
      | refine LeO.bind ?_ (fun _ => ?_)
set_option maxHeartbeats 8000000 in
set_option maxRecDepth 100000 in
theorem linotypelaw02_LiteralBack.calls [Go.Proofs.YtdndcigppbhhdaaDoorAM.Glo] [Go.Proofs.YtdndcigppbhhdaaDoorAM.TabL] (k : Nat) (a0 : Int) (a1 : ByteArray) (a2 : Int) (r : Bool) (w : World) (hLow0 : Go.Proofs.YtdndcigppbhhdaaDoorAM.Low w) (h : linotypelaw02_LiteralBack.f k a0 a1 a2 = some r) :
    Calls Tryd.prog 7 #[.int .i64 a0, .string a1, .int .u8 a2] w fun e w' => e = .returned (.bool r) ∧ Below w.heap.size w w' := by
  have hLow := Aside0.mk hLow0
  clear hLow0
  have hu43 := Tryd.underlying43
  have HB := Aside0.mk (Below.refl w.heap.size w)
  have H : ((linotypelaw02_awake.f).bind fun t118 => (if a2 = 95 then (linotypelaw02_LiteralBack.j0 k a0 a1 a2 t118 true) else (if a2 ≥ 48 then (if a2 ≤ 57 then (linotypelaw02_LiteralBack.j0 k a0 a1 a2 t118 true) else (if a2 ≥ 97 then (if a2 ≤ 122 then (linotypelaw02_LiteralBack.j0 k a0 a1 a2 t118 true) else (if a2 ≥ 65 then (linotypelaw02_LiteralBack.j0 k a0 a1 a2 t118 (decide (a2 ≤ 90))) else (linotypelaw02_LiteralBack.j0 k a0 a1 a2 t118 false))) else (if a2 ≥ 65 then (linotypelaw02_LiteralBack.j0 k a0 a1 a2 t118 (decide (a2 ≤ 90))) else (linotypelaw02_LiteralBack.j0 k a0 a1 a2 t118 false)))) else (if a2 ≥ 97 then (if a2 ≤ 122 then (linotypelaw02_LiteralBack.j0 k a0 a1 a2 t118 true) else (if a2 ≥ 65 then (linotypelaw02_LiteralBack.j0 k a0 a1 a2 t118 (decide (a2 ≤ 90))) else (linotypelaw02_LiteralBack.j0 k a0 a1 a2 t118 false))) else (if a2 ≥ 65 then (linotypelaw02_LiteralBack.j0 k a0 a1 a2 t118 (decide (a2 ≤ 90))) else (linotypelaw02_LiteralBack.j0 k a0 a1 a2 t118 false)))))) = some r := h
  clear h
  replace H := Option.bind_eq_some_iff.mp H
  obtain ⟨t118, A40, H⟩ := H
  replace H : (if a2 = 95 then (linotypelaw02_LiteralBack.j0 k a0 a1 a2 t118 true) else (if a2 ≥ 48 then (if a2 ≤ 57 then (linotypelaw02_LiteralBack.j0 k a0 a1 a2 t118 true) else (if a2 ≥ 97 then (if a2 ≤ 122 then (linotypelaw02_LiteralBack.j0 k a0 a1 a2 t118 true) else (if a2 ≥ 65 then (linotypelaw02_LiteralBack.j0 k a0 a1 a2 t118 (decide (a2 ≤ 90))) else (linotypelaw02_LiteralBack.j0 k a0 a1 a2 t118 false))) else (if a2 ≥ 65 then (linotypelaw02_LiteralBack.j0 k a0 a1 a2 t118 (decide (a2 ≤ 90))) else (linotypelaw02_LiteralBack.j0 k a0 a1 a2 t118 false)))) else (if a2 ≥ 97 then (if a2 ≤ 122 then (linotypelaw02_LiteralBack.j0 k a0 a1 a2 t118 true) else (if a2 ≥ 65 then (linotypelaw02_LiteralBack.j0 k a0 a1 a2 t118 (decide (a2 ≤ 90))) else (linotypelaw02_LiteralBack.j0 k a0 a1 a2 t118 false))) else (if a2 ≥ 65 then (linotypelaw02_LiteralBack.j0 k a0 a1 a2 t118 (decide (a2 ≤ 90))) else (linotypelaw02_LiteralBack.j0 k a0 a1 a2 t118 false))))) = some r := H
  have A4 := Aside0.mk A40
  clear A40
  have HC5 := Aside0.mk H
  clear H
  go_enter Tryd.func7, Tryd.ntmps7
  go_upto_region 2 with (first | ((with_reducible refine gate_callee (f := 30) rfl ?_); refine goesL_ (some 16) rfl rfl Tryd.func30 (by kernel_rfl) rfl #[] rfl (by (try simp only [List.map_toArray, List.map_cons, List.map_nil]); first | done | rfl | (simp only [List.length_drop, List.length_take]; rfl)) ?_; (with_reducible refine (linotypelaw02_awake.calls  t118 _ (Go.Proofs.YtdndcigppbhhdaaDoorAM.lowB hLow.out (by repeat (first | (with_reducible first | exact HB.out | apply below_alloc | apply pw_below_drewN | apply below_drew1) | exact HB.out))) A4.out).mono ?_); rintro e w6 ⟨rfl, hb⟩; refine ⟨_, rfl, ?_⟩; have n0_ := Aside0.mk (below_step (by repeat (first | (with_reducible first | exact HB.out | apply below_alloc | apply pw_below_drewN | apply below_drew1) | exact HB.out)) hb); clear HB; have HB := n0_; clear n0_; (try clear hb); (try clear hb2); (try clear hk); (try clear hi)))
  (try simp only [Act.put, List.setIfInBounds_toArray, List.set_cons_zero, List.set_cons_succ])
  go_cut [8] (fun v8 wc => ∃ (kq : Nat) (x8_4 : Bool), v8 = .bool x8_4 ∧ Aside0 (linotypelaw02_LiteralBack.j0 kq a0 a1 a2 t118 x8_4 = some r) ∧ Aside0 (kq ≤ k) ∧ Aside0 (Below w.heap.size w wc))
  case first =>
    have H := HC5.out
    clear HC5
    by_cases c7 : a2 = 95
    · rw [if_pos c7] at H
      have c7b0 : (a2 == 95) = true := beq_iff_eq.mpr c7
      have c7b1 : (a2 != 95) = false := bne_eq_false_iff_eq.mpr c7
      clear c7
      (first | rw [c7b0] | (simp only [i64_w, i32_w]; rw [c7b0]) | skip)
      have H' := Aside0.mk H
      clear H
      go_wp2
      go_meet
      case rel => exact ⟨_, (true), (by first | rfl | (simp; done) | (simp [*]; done)), H', ⟨by first | omega | exact Nat.le_refl _⟩, ⟨by repeat (first | (with_reducible first | exact HB.out | apply below_alloc | apply pw_below_drewN | apply below_drew1) | exact HB.out)⟩⟩
    · rw [if_neg c7] at H
      have c7b0 : (a2 == 95) = false := beq_eq_false_iff_ne.mpr c7
      have c7b1 : (a2 != 95) = true := bne_iff_ne.mpr c7
      (first | rw [c7b0] | (simp only [i64_w, i32_w]; rw [c7b0]) | skip)
      by_cases c8 : a2 ≥ 48
      · rw [if_pos c8] at H
        have c8b0 : decide (48 ≤ a2) = true := decide_eq_true c8
        clear c8
        by_cases c9 : a2 ≤ 57
        · rw [if_pos c9] at H
          have c9b0 : decide (a2 ≤ 57) = true := decide_eq_true c9
          clear c9
          have H' := Aside0.mk H
          clear H
          go_wp2
          go_meet
          case rel => exact ⟨_, (true), (by first | rfl | (simp; done) | (simp [*]; done)), H', ⟨by first | omega | exact Nat.le_refl _⟩, ⟨by repeat (first | (with_reducible first | exact HB.out | apply below_alloc | apply pw_below_drewN | apply below_drew1) | exact HB.out)⟩⟩
        · rw [if_neg c9] at H
          have c9b0 : decide (a2 ≤ 57) = false := decide_eq_false c9
          clear c9
          by_cases c10 : a2 ≥ 97
          · rw [if_pos c10] at H
            have c10b0 : decide (97 ≤ a2) = true := decide_eq_true c10
            clear c10
            by_cases c11 : a2 ≤ 122
            · rw [if_pos c11] at H
              have c11b0 : decide (a2 ≤ 122) = true := decide_eq_true c11
              clear c11
              have H' := Aside0.mk H
              clear H
              go_wp2
              go_meet
              case rel => exact ⟨_, (true), (by first | rfl | (simp; done) | (simp [*]; done)), H', ⟨by first | omega | exact Nat.le_refl _⟩, ⟨by repeat (first | (with_reducible first | exact HB.out | apply below_alloc | apply pw_below_drewN | apply below_drew1) | exact HB.out)⟩⟩
            · rw [if_neg c11] at H
              have c11b0 : decide (a2 ≤ 122) = false := decide_eq_false c11
              clear c11
              by_cases c12 : a2 ≥ 65
              · rw [if_pos c12] at H
                have c12b0 : decide (65 ≤ a2) = true := decide_eq_true c12
                clear c12
                have H' := Aside0.mk H
                clear H
                go_wp2
                go_meet
                case rel => exact ⟨_, (decide (a2 ≤ 90)), (by first | rfl | (simp; done) | (simp [*]; done)), H', ⟨by first | omega | exact Nat.le_refl _⟩, ⟨by repeat (first | (with_reducible first | exact HB.out | apply below_alloc | apply pw_below_drewN | apply below_drew1) | exact HB.out)⟩⟩
              · rw [if_neg c12] at H
                have c12b0 : decide (65 ≤ a2) = false := decide_eq_false c12
                clear c12
                have H' := Aside0.mk H
                clear H
                go_wp2
                go_meet
                case rel => exact ⟨_, (false), (by first | rfl | (simp; done) | (simp [*]; done)), H', ⟨by first | omega | exact Nat.le_refl _⟩, ⟨by repeat (first | (with_reducible first | exact HB.out | apply below_alloc | apply pw_below_drewN | apply below_drew1) | exact HB.out)⟩⟩
          · rw [if_neg c10] at H
            have c10b0 : decide (97 ≤ a2) = false := decide_eq_false c10
            clear c10
            by_cases c13 : a2 ≥ 65
            · rw [if_pos c13] at H
              have c13b0 : decide (65 ≤ a2) = true := decide_eq_true c13
              clear c13
              have H' := Aside0.mk H
              clear H
              go_wp2
              go_meet
              case rel => exact ⟨_, (decide (a2 ≤ 90)), (by first | rfl | (simp; done) | (simp [*]; done)), H', ⟨by first | omega | exact Nat.le_refl _⟩, ⟨by repeat (first | (with_reducible first | exact HB.out | apply below_alloc | apply pw_below_drewN | apply below_drew1) | exact HB.out)⟩⟩
            · rw [if_neg c13] at H
              have c13b0 : decide (65 ≤ a2) = false := decide_eq_false c13
              clear c13
              have H' := Aside0.mk H
              clear H
              go_wp2
              go_meet
              case rel => exact ⟨_, (false), (by first | rfl | (simp; done) | (simp [*]; done)), H', ⟨by first | omega | exact Nat.le_refl _⟩, ⟨by repeat (first | (with_reducible first | exact HB.out | apply below_alloc | apply pw_below_drewN | apply below_drew1) | exact HB.out)⟩⟩
      · rw [if_neg c8] at H
        have c8b0 : decide (48 ≤ a2) = false := decide_eq_false c8
        clear c8
        by_cases c14 : a2 ≥ 97
        · rw [if_pos c14] at H
          have c14b0 : decide (97 ≤ a2) = true := decide_eq_true c14
          clear c14
          by_cases c15 : a2 ≤ 122
          · rw [if_pos c15] at H
            have c15b0 : decide (a2 ≤ 122) = true := decide_eq_true c15
            clear c15
            have H' := Aside0.mk H
            clear H
            go_wp2
            go_meet
            case rel => exact ⟨_, (true), (by first | rfl | (simp; done) | (simp [*]; done)), H', ⟨by first | omega | exact Nat.le_refl _⟩, ⟨by repeat (first | (with_reducible first | exact HB.out | apply below_alloc | apply pw_below_drewN | apply below_drew1) | exact HB.out)⟩⟩
          · rw [if_neg c15] at H
            have c15b0 : decide (a2 ≤ 122) = false := decide_eq_false c15
            clear c15
            by_cases c16 : a2 ≥ 65
            · rw [if_pos c16] at H
              have c16b0 : decide (65 ≤ a2) = true := decide_eq_true c16
              clear c16
              have H' := Aside0.mk H
              clear H
              go_wp2
              go_meet
              case rel => exact ⟨_, (decide (a2 ≤ 90)), (by first | rfl | (simp; done) | (simp [*]; done)), H', ⟨by first | omega | exact Nat.le_refl _⟩, ⟨by repeat (first | (with_reducible first | exact HB.out | apply below_alloc | apply pw_below_drewN | apply below_drew1) | exact HB.out)⟩⟩
            · rw [if_neg c16] at H
              have c16b0 : decide (65 ≤ a2) = false := decide_eq_false c16
              clear c16
              have H' := Aside0.mk H
              clear H
              go_wp2
              go_meet
              case rel => exact ⟨_, (false), (by first | rfl | (simp; done) | (simp [*]; done)), H', ⟨by first | omega | exact Nat.le_refl _⟩, ⟨by repeat (first | (with_reducible first | exact HB.out | apply below_alloc | apply pw_below_drewN | apply below_drew1) | exact HB.out)⟩⟩
        · rw [if_neg c14] at H
          have c14b0 : decide (97 ≤ a2) = false := decide_eq_false c14
          clear c14
          by_cases c17 : a2 ≥ 65
          · rw [if_pos c17] at H
            have c17b0 : decide (65 ≤ a2) = true := decide_eq_true c17
            clear c17
            have H' := Aside0.mk H
            clear H
            go_wp2
            go_meet
            case rel => exact ⟨_, (decide (a2 ≤ 90)), (by first | rfl | (simp; done) | (simp [*]; done)), H', ⟨by first | omega | exact Nat.le_refl _⟩, ⟨by repeat (first | (with_reducible first | exact HB.out | apply below_alloc | apply pw_below_drewN | apply below_drew1) | exact HB.out)⟩⟩
          · rw [if_neg c17] at H
            have c17b0 : decide (65 ≤ a2) = false := decide_eq_false c17
            clear c17
            have H' := Aside0.mk H
            clear H
            go_wp2
            go_meet
            case rel => exact ⟨_, (false), (by first | rfl | (simp; done) | (simp [*]; done)), H', ⟨by first | omega | exact Nat.le_refl _⟩, ⟨by repeat (first | (with_reducible first | exact HB.out | apply below_alloc | apply pw_below_drewN | apply below_drew1) | exact HB.out)⟩⟩
  case rest =>
    clear HC5
    try clear c1
    try clear p2
    try clear c3
    try clear c7
    try clear c7b0
    try clear c7b1
    try clear c8
    try clear c8b0
    try clear c9
    try clear c9b0
    try clear c10
    try clear c10b0
    try clear c11
    try clear c11b0
    try clear c12
    try clear c12b0
    try clear c13
    try clear c13b0
    try clear c14
    try clear c14b0
    try clear c15
    try clear c15b0
    try clear c16
    try clear c16b0
    try clear c17
    try clear c17b0
    obtain ⟨kq, x8_4, rfl, HA, HJ4, HB⟩ := hcut
    cases kq with
    | zero => exact absurd HA.out (by simp [linotypelaw02_LiteralBack.j0])
    | succ kj4 =>
      have H := HA.out
      clear HA
      simp only [linotypelaw02_LiteralBack.j0] at H
      have HC18 := Aside0.mk H
      clear H
      go_upto_region 3 with (fail)
      go_cut [48] (fun v48 wc => ∃ (kq : Nat) (x48_17 : Bool), v48 = .bool x48_17 ∧ Aside0 (linotypelaw02_LiteralBack.j1 kq a0 a1 a2 t118 x48_17 = some r) ∧ Aside0 (kq ≤ kj4) ∧ Aside0 (Below w.heap.size w wc))
      case first =>
        have H := HC18.out
        clear HC18
        by_cases c19 : (a1.size : Int) > 50
        · rw [if_pos c19] at H
          have c19b0 : decide (50 < (a1.size : Int)) = true := decide_eq_true c19
          have c19b1 : decide (50 < a1.size) = true := decide_eq_true (by omega)
          clear c19
          (first | rw [c19b0] | (simp only [i64_w, i32_w]; rw [c19b0]) | skip)
          have H' := Aside0.mk H
          clear H
          go_wp2
          go_meet
          case rel => exact ⟨_, (true), (by first | rfl | (simp; done) | (simp [*]; done)), H', ⟨by have := HJ4.out; first | omega | exact Nat.le_refl _⟩, ⟨by repeat (first | (with_reducible first | exact HB.out | apply below_alloc | apply pw_below_drewN | apply below_drew1) | exact HB.out)⟩⟩
        · rw [if_neg c19] at H
          have c19b0 : decide (50 < (a1.size : Int)) = false := decide_eq_false c19
          have c19b1 : decide (50 < a1.size) = false := decide_eq_false (by omega)
          clear c19
          (first | rw [c19b0] | (simp only [i64_w, i32_w]; rw [c19b0]) | skip)
          have H' := Aside0.mk H
          clear H
          go_wp2
          go_meet
          case rel => exact ⟨_, (x8_4), (by first | rfl | (simp; done) | (simp [*]; done)), H', ⟨by have := HJ4.out; first | omega | exact Nat.le_refl _⟩, ⟨by repeat (first | (with_reducible first | exact HB.out | apply below_alloc | apply pw_below_drewN | apply below_drew1) | exact HB.out)⟩⟩
      case rest =>
        clear HC18
        try clear c1
        try clear p2
        try clear c3
        try clear c7
        try clear c7b0
        try clear c7b1
        try clear c8
        try clear c8b0
        try clear c9
        try clear c9b0
        try clear c10
        try clear c10b0
        try clear c11
        try clear c11b0
        try clear c12
        try clear c12b0
        try clear c13
        try clear c13b0
        try clear c14
        try clear c14b0
        try clear c15
        try clear c15b0
        try clear c16
        try clear c16b0
        try clear c17
        try clear c17b0
        try clear c19
        try clear c19b0
        try clear c19b1
        try clear p2
        obtain ⟨kq, x48_17, rfl, HA, HJ17, HB⟩ := hcut
        cases kq with
        | zero => exact absurd HA.out (by simp [linotypelaw02_LiteralBack.j1])
        | succ kj17 =>
          have H := HA.out
          clear HA
          simp only [linotypelaw02_LiteralBack.j1] at H
          by_cases c20 : x48_17 = true
          · subst c20
            have H1 : (some t118) = some r := by rw [if_pos rfl] at H; exact H
            clear H
            have H := H1
            clear H1
            obtain rfl := Option.some.inj H
            go_wp2
            go_ret
            exact ⟨by first | rfl | (simp [errW_none, errW_some] <;> rfl) | (simp [*, errW_none, errW_some] <;> rfl), by repeat (first | (with_reducible first | exact HB.out | apply below_alloc | apply pw_below_drewN | apply below_drew1) | exact HB.out)⟩
          · replace c20 := Bool.eq_false_iff.mpr c20
            subst c20
            have H1 : ((literal_Hex.f a0).bind fun t119 => ((literal_Dec.f a0).bind fun t120 => (linotypelaw02_LiteralBack.l0 kj17 a0 a1 a2 t118 (([t119, t120] : List ByteArray)) 0))) = some r := by rw [if_neg (show ¬ (false = true) by decide)] at H; exact H
            clear H
            have H := H1
            clear H1
            replace H := Option.bind_eq_some_iff.mp H
            obtain ⟨t119, A210, H⟩ := H
            replace H : ((literal_Dec.f a0).bind fun t120 => (linotypelaw02_LiteralBack.l0 kj17 a0 a1 a2 t118 (([t119, t120] : List ByteArray)) 0)) = some r := H
            have A21 := Aside0.mk A210
            clear A210
            replace H := Option.bind_eq_some_iff.mp H
            obtain ⟨t120, A220, H⟩ := H
            replace H : (linotypelaw02_LiteralBack.l0 kj17 a0 a1 a2 t118 (([t119, t120] : List ByteArray)) 0) = some r := H
            have A22 := Aside0.mk A220
            clear A220
            obtain ⟨y121, hy121⟩ : ∃ y_ : List ByteArray, y_ = (([t119, t120] : List ByteArray)) := ⟨_, rfl⟩
            replace H : (linotypelaw02_LiteralBack.l0 kj17 a0 a1 a2 t118 y121 0) = some r := by first | (rw [hy121]; with_reducible exact H) | (have H2_ := (Option.bind_some _ _).symm.trans H; rw [hy121]; with_reducible exact H2_) | (have H2_ := (Option.bind_some _ _).symm.trans H; with_reducible exact H2_) | with_reducible exact H | (rw [hy121]; exact H) | exact H
            have Ny121 := Aside0.mk hy121
            clear hy121
            have H' := Aside0.mk H
            clear H
            go_wp2_with (first | ((with_reducible refine gate_callee (f := 26) rfl ?_); refine goesL_ (some 51) rfl rfl Tryd.func26 (by kernel_rfl) rfl #[.int .i64 a0] rfl (by (try simp only [List.map_toArray, List.map_cons, List.map_nil]); first | done | rfl | (simp only [List.length_drop, List.length_take]; rfl)) ?_; (with_reducible refine (literal_Hex.calls a0 t119 _ (Go.Proofs.YtdndcigppbhhdaaDoorAM.lowB hLow.out (by repeat (first | (with_reducible first | exact HB.out | apply below_alloc | apply pw_below_drewN | apply below_drew1) | exact HB.out))) A21.out).mono ?_); rintro e w23 ⟨rfl, hb⟩; refine ⟨_, rfl, ?_⟩; have n0_ := Aside0.mk (below_step (by repeat (first | (with_reducible first | exact HB.out | apply below_alloc | apply pw_below_drewN | apply below_drew1) | exact HB.out)) hb); clear HB; have HB := n0_; clear n0_; (try clear hb); (try clear hb2); (try clear hk); (try clear hi)) | ((with_reducible refine gate_callee (f := 28) rfl ?_); refine goesL_ (some 53) rfl rfl Tryd.func28 (by kernel_rfl) rfl #[.int .i64 a0] rfl (by (try simp only [List.map_toArray, List.map_cons, List.map_nil]); first | done | rfl | (simp only [List.length_drop, List.length_take]; rfl)) ?_; (with_reducible refine (literal_Dec.calls a0 t120 _ (Go.Proofs.YtdndcigppbhhdaaDoorAM.lowB hLow.out (by repeat (first | (with_reducible first | exact HB.out | apply below_alloc | apply pw_below_drewN | apply below_drew1) | exact HB.out))) A22.out).mono ?_); rintro e w24 ⟨rfl, hb⟩; refine ⟨_, rfl, ?_⟩; have n0_ := Aside0.mk (below_step (by repeat (first | (with_reducible first | exact HB.out | apply below_alloc | apply pw_below_drewN | apply below_drew1) | exact HB.out)) hb); clear HB; have HB := n0_; clear n0_; (try clear hb); (try clear hb2); (try clear hk); (try clear hi)) | ((with_reducible refine gate_dst (N := 54) rfl ?_); refine Kd.R_lit Kd.string _ 9 ?hg (N := 54) ?hd (xs := ([t119, t120] : List ByteArray)) (inner := [.string t119, .string t120]) (ok := fun _ => True) (okp := fun _ => True) ?hr ?hp (fun _ hk => hk) trivial (Below.refl _ _) (Nat.le_refl _) (by simp) ?_; (case hd => rfl); (case hg => rfl); (case hr => first | (go_simp; done) | (go_simp; rfl)); (case hp => exact (Reps.one (show Kd.M Kd.string _ _ _ t119 [.string t119] from rfl) (Reps.one (show Kd.M Kd.string _ _ _ t120 [.string t120] from rfl) (Reps.none _ _)))); intro v122 w25 ho26 hb hg_ hnew_; clear hg_ hnew_; (first | rw [← Ny121.out] at ho26 | (simp only [Int.reduceToNat] at ho26; rw [← Ny121.out] at ho26)); have n0_ := Aside0.mk (Kd.R_lower ho26 (below_size (by repeat (first | (with_reducible first | exact HB.out | apply below_alloc | apply pw_below_drewN | apply below_drew1) | exact HB.out)))); have n1_ := Aside0.mk (below_step (by repeat (first | (with_reducible first | exact HB.out | apply below_alloc | apply pw_below_drewN | apply below_drew1) | exact HB.out)) hb); clear HB; have HO123 := n0_; have HB := n1_; clear n0_ n1_; clear hb ho26))
            go_loopg [10] kj17 (fun kq v10 w' => ∃ (x10_3 : Int), v10 = .int .i64 x10_3 ∧ Aside0 (linotypelaw02_LiteralBack.l0 kq a0 a1 a2 t118 y121 x10_3 = some r) ∧ Aside0 (kq ≤ kj17) ∧ Aside0 (Kd.R Kd.string 9 w' w.heap.size (fun _ => True) v122 y121) ∧ Aside0 (Below w.heap.size w w'))
            case atStart => exact ⟨(0), (by first | rfl | (simp; done) | (simp [*]; done)), H', ⟨Nat.le_refl _⟩, ⟨by (with_reducible repeat (first | apply Kd.R_alloc | apply Kd.R_drewN | apply Kd.R_drew)); exact HO123.out⟩, ⟨by repeat (first | (with_reducible first | exact HB.out | apply below_alloc | apply pw_below_drewN | apply below_drew1) | exact HB.out)⟩⟩
            case round =>
              clear H'
              try clear c1
              try clear c2
              try clear p2
              try clear c3
              try clear c7
              try clear c7b0
              try clear c7b1
              try clear c8
              try clear c8b0
              try clear c9
              try clear c9b0
              try clear c10
              try clear c10b0
              try clear c11
              try clear c11b0
              try clear c12
              try clear c12b0
              try clear c13
              try clear c13b0
              try clear c14
              try clear c14b0
              try clear c15
              try clear c15b0
              try clear c16
              try clear c16b0
              try clear c17
              try clear c17b0
              try clear c19
              try clear c19b0
              try clear c19b1
              try clear c20
              try clear c26
              try clear p2
              obtain ⟨x10_3, rfl, HA, HK3, HO_9, HB⟩ := hrel
              cases gk with
              | zero => exact absurd HA.out (by simp [linotypelaw02_LiteralBack.l0])
              | succ k3 =>
                have H := HA.out
                clear HA
                simp only [linotypelaw02_LiteralBack.l0] at H
                by_cases c27 : x10_3 < (y121.length : Int)
                · rw [if_pos c27] at H
                  have c27b0 : decide (x10_3 < (y121.length : Int)) = true := decide_eq_true c27
                  clear c27
                  by_cases c28 : 0 ≤ x10_3
                  · rw [if_pos c28] at H
                    have c28b0 : decide (0 ≤ x10_3) = true := decide_eq_true c28
                    clear c28
                    by_cases c29 : a0 < 0
                    · rw [if_pos c29] at H
                      have c29b0 : decide (a0 < 0) = true := decide_eq_true c29
                      clear c29
                      have HC30 := Aside0.mk H
                      clear H
                      obtain ⟨Ao31, co31, eo31⟩ := Kd.R_slice HO_9.out
                      subst eo31
                      have p124 : 0 ≤ (x10_3 : Int) := of_decide_eq_true (by first | (with_reducible assumption) | assumption)
                      have q124 : x10_3 < (y121.length : Int) := of_decide_eq_true (by first | (with_reducible assumption) | assumption)
                      obtain ⟨ad124, e124, hx124_0⟩ := Kd.at_string (Kd.R_reads' HO_9.out).2.2 x10_3 p124 q124
                      cases e124
                      replace p124 := eq_true p124
                      replace q124 := eq_true q124
                      go_upto_region 11 with (fail)
                      go_cut [75] (fun v75 wc => ∃ (kq : Nat) (x75_29 : Bool), v75 = .bool x75_29 ∧ Aside0 (linotypelaw02_LiteralBack.j3 kq a0 a1 a2 t118 y121 x10_3 (rdOf ByteArray.empty y121 x10_3) x75_29 = some r) ∧ Aside0 (kq ≤ k3) ∧ Aside0 (Kd.R Kd.string 9 wc w.heap.size (fun _ => True) (.slice (some ad124) y121.length co31) y121) ∧ Aside0 (Below w.heap.size w wc))
                      case first =>
                        have H := HC30.out
                        clear HC30
                        by_cases c32 : ((rdOf ByteArray.empty y121 x10_3).size : Int) < 2
                        · rw [if_pos c32] at H
                          have c32b0 : decide (((rdOf ByteArray.empty y121 x10_3).size : Int) < 2) = true := decide_eq_true c32
                          have c32b1 : decide ((rdOf ByteArray.empty y121 x10_3).size < 2) = true := decide_eq_true (by omega)
                          clear c32
                          (first | rw [c32b0] | (simp only [i64_w, i32_w]; rw [c32b0]) | skip)
                          have H' := Aside0.mk H
                          clear H
                          go_wp2
                          go_meet
                          case rel => exact ⟨_, (true), (by first | rfl | (simp; done) | (simp [*]; done)), H', ⟨by have := HJ4.out; have := HJ17.out; have := HK3.out; first | omega | exact Nat.le_refl _⟩, ⟨by (with_reducible repeat (first | apply Kd.R_alloc | apply Kd.R_drewN | apply Kd.R_drew)); exact HO_9.out⟩, ⟨by repeat (first | (with_reducible first | exact HB.out | apply below_alloc | apply pw_below_drewN | apply below_drew1) | exact HB.out)⟩⟩
                        · rw [if_neg c32] at H
                          have c32b0 : decide (((rdOf ByteArray.empty y121 x10_3).size : Int) < 2) = false := decide_eq_false c32
                          have c32b1 : decide ((rdOf ByteArray.empty y121 x10_3).size < 2) = false := decide_eq_false (by omega)
                          clear c32
                          (first | rw [c32b0] | (simp only [i64_w, i32_w]; rw [c32b0]) | skip)
                          by_cases c33 : 0 < ((rdOf ByteArray.empty y121 x10_3).size : Int)
                          · rw [if_pos c33] at H
                            have c33b0 : decide (0 < ((rdOf ByteArray.empty y121 x10_3).size : Int)) = true := decide_eq_true c33
                            have c33b1 : decide (0 < (rdOf ByteArray.empty y121 x10_3).size) = true := decide_eq_true (by omega)
                            clear c33
                            have H' := Aside0.mk H
                            clear H
                            have p34 : 0 ≤ (0 : Int) := (by omega)
                            have q34 : 0 < (rdOf ByteArray.empty y121 x10_3).size := (by have : (0 : Int) < ((rdOf ByteArray.empty y121 x10_3).size : Int) := of_decide_eq_true (by first | (with_reducible assumption) | assumption); omega)
                            have hx34 : ∀ h : 0 < (rdOf ByteArray.empty y121 x10_3).size, (((rdOf ByteArray.empty y121 x10_3)[0]'h).toNat : Int) = bt (rdOf ByteArray.empty y121 x10_3) 0 := bt_at (rdOf ByteArray.empty y121 x10_3) 0
                            clear p34
                            have qi34 : (0 < ((rdOf ByteArray.empty y121 x10_3).size : Int)) = True := eq_true (of_decide_eq_true (by first | (with_reducible assumption) | assumption))
                            replace q34 := eq_true q34
                            go_wp2
                            go_meet
                            case rel => exact ⟨_, (((bt (rdOf ByteArray.empty y121 x10_3) 0) != 45)), (by first | rfl | (simp; done) | (simp [*]; done)), H', ⟨by have := HJ4.out; have := HJ17.out; have := HK3.out; first | omega | exact Nat.le_refl _⟩, ⟨by (with_reducible repeat (first | apply Kd.R_alloc | apply Kd.R_drewN | apply Kd.R_drew)); exact HO_9.out⟩, ⟨by repeat (first | (with_reducible first | exact HB.out | apply below_alloc | apply pw_below_drewN | apply below_drew1) | exact HB.out)⟩⟩
                          · rw [if_neg c33] at H
                            exact absurd H (by simp)
                      case rest =>
                        clear HC30
                        try clear c1
                        try clear p1
                        try clear q1
                        try clear hx1
                        try clear c2
                        try clear p2
                        try clear c3
                        try clear p3
                        try clear q3
                        try clear hx3
                        try clear qi3
                        try clear c7
                        try clear c7b0
                        try clear c7b1
                        try clear c8
                        try clear c8b0
                        try clear c9
                        try clear c9b0
                        try clear c10
                        try clear c10b0
                        try clear c11
                        try clear c11b0
                        try clear c12
                        try clear c12b0
                        try clear p12
                        try clear q12
                        try clear hx12
                        try clear c13
                        try clear c13b0
                        try clear c14
                        try clear c14b0
                        try clear c15
                        try clear c15b0
                        try clear c16
                        try clear c16b0
                        try clear c17
                        try clear c17b0
                        try clear c19
                        try clear c19b0
                        try clear c19b1
                        try clear c20
                        try clear c26
                        try clear c27
                        try clear c27b0
                        try clear c28
                        try clear c28b0
                        try clear c29
                        try clear c29b0
                        try clear c30
                        try clear c32
                        try clear c32b0
                        try clear c32b1
                        try clear c33
                        try clear c33b0
                        try clear c33b1
                        try clear p34
                        try clear q34
                        try clear hx34
                        try clear qi34
                        try clear hx124_0
                        try clear p124
                        try clear p2
                        try clear p34
                        try clear q124
                        try clear q34
                        obtain ⟨kq, x75_29, rfl, HA, HJ29, HO_9, HB⟩ := hcut
                        cases kq with
                        | zero => exact absurd HA.out (by simp [linotypelaw02_LiteralBack.j3])
                        | succ kj29 =>
                          have H := HA.out
                          clear HA
                          simp only [linotypelaw02_LiteralBack.j3] at H
                          by_cases c35 : x75_29 = true
                          · subst c35
                            have H1 : (some false) = some r := by rw [if_pos rfl] at H; exact H
                            clear H
                            have H := H1
                            clear H1
                            obtain rfl := Option.some.inj H
                            go_wp2
                            go_ret
                            exact ⟨by first | rfl | (simp [errW_none, errW_some] <;> rfl) | (simp [*, errW_none, errW_some] <;> rfl), by repeat (first | (with_reducible first | exact HB.out | apply below_alloc | apply pw_below_drewN | apply below_drew1) | exact HB.out)⟩
                          · replace c35 := Bool.eq_false_iff.mpr c35
                            subst c35
                            have H1 : (if 1 ≤ ((rdOf ByteArray.empty y121 x10_3).size : Int) then (if a1.size + ((rdOf ByteArray.empty y121 x10_3).extract 1 (rdOf ByteArray.empty y121 x10_3).size).size ≤ 9223372036854775807 then ((some (([a2] : List Int) : List Int)).bind fun y125 => (if (a1 ++ ((rdOf ByteArray.empty y121 x10_3).extract 1 (rdOf ByteArray.empty y121 x10_3).size)).size + (strOfNums y125).size ≤ 9223372036854775807 then ((literal_Scan.f kj29 ((a1 ++ ((rdOf ByteArray.empty y121 x10_3).extract 1 (rdOf ByteArray.empty y121 x10_3).size)) ++ (strOfNums y125)) (a1.size : Int)).bind fun bt128 => (if bt128.1 = (wrap64 (-a0)) then (if bt128.2.1 = (wrap64 ((a1.size : Int) + (((rdOf ByteArray.empty y121 x10_3).extract 1 (rdOf ByteArray.empty y121 x10_3).size).size : Int))) then (if bt128.2.2.1 = 0 then (linotypelaw02_LiteralBack.l0 kj29 a0 a1 a2 t118 y121 (wrap64 (x10_3 + 1))) else (some false)) else (some false)) else (some false))) else (none))) else (none)) else (none)) = some r := by rw [if_neg (show ¬ (false = true) by decide)] at H; exact H
                            clear H
                            have H := H1
                            clear H1
                            by_cases c36 : 1 ≤ ((rdOf ByteArray.empty y121 x10_3).size : Int)
                            · rw [if_pos c36] at H
                              have c36b0 := eq_true c36
                              have c36b1 : decide (1 ≤ ((rdOf ByteArray.empty y121 x10_3).size : Int)) = true := decide_eq_true c36
                              clear c36
                              by_cases c37 : a1.size + ((rdOf ByteArray.empty y121 x10_3).extract 1 (rdOf ByteArray.empty y121 x10_3).size).size ≤ 9223372036854775807
                              · rw [if_pos c37] at H
                                have c37b0 := eq_true c37
                                have c37b1 : decide (a1.size + ((rdOf ByteArray.empty y121 x10_3).extract 1 (rdOf ByteArray.empty y121 x10_3).size).size ≤ 9223372036854775807) = true := decide_eq_true c37
                                try have c37b2 : (9223372036854775807 < a1.size + ((rdOf ByteArray.empty y121 x10_3).extract 1 (rdOf ByteArray.empty y121 x10_3).size).size) = False := eq_false (Nat.not_lt.2 c37)
                                obtain ⟨y125, hy125⟩ : ∃ y_ : List Int, y_ = (([a2] : List Int)) := ⟨_, rfl⟩
                                replace H : (if (a1 ++ ((rdOf ByteArray.empty y121 x10_3).extract 1 (rdOf ByteArray.empty y121 x10_3).size)).size + (strOfNums y125).size ≤ 9223372036854775807 then ((literal_Scan.f kj29 ((a1 ++ ((rdOf ByteArray.empty y121 x10_3).extract 1 (rdOf ByteArray.empty y121 x10_3).size)) ++ (strOfNums y125)) (a1.size : Int)).bind fun bt128 => (if bt128.1 = (wrap64 (-a0)) then (if bt128.2.1 = (wrap64 ((a1.size : Int) + (((rdOf ByteArray.empty y121 x10_3).extract 1 (rdOf ByteArray.empty y121 x10_3).size).size : Int))) then (if bt128.2.2.1 = 0 then (linotypelaw02_LiteralBack.l0 kj29 a0 a1 a2 t118 y121 (wrap64 (x10_3 + 1))) else (some false)) else (some false)) else (some false))) else (none)) = some r := by first | (rw [hy125]; with_reducible exact H) | (have H2_ := (Option.bind_some _ _).symm.trans H; rw [hy125]; with_reducible exact H2_) | (have H2_ := (Option.bind_some _ _).symm.trans H; with_reducible exact H2_) | with_reducible exact H | (rw [hy125]; exact H) | exact H
                                have Ny125 := Aside0.mk hy125
                                clear hy125
                                by_cases c38 : (a1 ++ ((rdOf ByteArray.empty y121 x10_3).extract 1 (rdOf ByteArray.empty y121 x10_3).size)).size + (strOfNums y125).size ≤ 9223372036854775807
                                · rw [if_pos c38] at H
                                  have c38b0 := eq_true c38
                                  have c38b1 : decide ((a1 ++ ((rdOf ByteArray.empty y121 x10_3).extract 1 (rdOf ByteArray.empty y121 x10_3).size)).size + (strOfNums y125).size ≤ 9223372036854775807) = true := decide_eq_true c38
                                  try have c38b2 : (9223372036854775807 < (a1 ++ ((rdOf ByteArray.empty y121 x10_3).extract 1 (rdOf ByteArray.empty y121 x10_3).size)).size + (strOfNums y125).size) = False := eq_false (Nat.not_lt.2 c38)
                                  (try (have c38b3 : (9223372036854775807 < (a1 ++ ((rdOf ByteArray.empty y121 x10_3).extract 1 (rdOf ByteArray.empty y121 x10_3).size)).size + (strOfNums y125).size) = False := c38b2; simp only [ByteArray.size_append, Go.Proofs.YtdndcigppbhhdaaDoorAM.sz1, Go.Proofs.YtdndcigppbhhdaaDoorAM.sz2] at c38b3))
                                  replace H := Option.bind_eq_some_iff.mp H
                                  obtain ⟨⟨t128, t129, t130, t131⟩, A390, H⟩ := H
                                  replace H : (if t128 = (wrap64 (-a0)) then (if t129 = (wrap64 ((a1.size : Int) + (((rdOf ByteArray.empty y121 x10_3).extract 1 (rdOf ByteArray.empty y121 x10_3).size).size : Int))) then (if t130 = 0 then (linotypelaw02_LiteralBack.l0 kj29 a0 a1 a2 t118 y121 (wrap64 (x10_3 + 1))) else (some false)) else (some false)) else (some false)) = some r := H
                                  have A39 := Aside0.mk A390
                                  clear A390
                                  by_cases c40 : t128 = (wrap64 (-a0))
                                  · rw [if_pos c40] at H
                                    have c40b0 : (t128 == (wrap64 (-a0))) = true := beq_iff_eq.mpr c40
                                    have c40b1 : (t128 != (wrap64 (-a0))) = false := bne_eq_false_iff_eq.mpr c40
                                    clear c40
                                    by_cases c41 : t129 = (wrap64 ((a1.size : Int) + (((rdOf ByteArray.empty y121 x10_3).extract 1 (rdOf ByteArray.empty y121 x10_3).size).size : Int)))
                                    · rw [if_pos c41] at H
                                      have c41b0 : (t129 == (wrap64 ((a1.size : Int) + (((rdOf ByteArray.empty y121 x10_3).extract 1 (rdOf ByteArray.empty y121 x10_3).size).size : Int)))) = true := beq_iff_eq.mpr c41
                                      (have c41b0x : (t129 == (wrap64 ((a1.size : Int) + (((rdOf ByteArray.empty y121 x10_3).size - 1 : Nat) : Int)))) = true := by (have h_ := c41b0; rw [Go.Proofs.YtdndcigppbhhdaaDoorAM.ext1] at h_; exact h_))
                                      have c41b1 : (t129 != (wrap64 ((a1.size : Int) + (((rdOf ByteArray.empty y121 x10_3).extract 1 (rdOf ByteArray.empty y121 x10_3).size).size : Int)))) = false := bne_eq_false_iff_eq.mpr c41
                                      (have c41b1x : (t129 != (wrap64 ((a1.size : Int) + (((rdOf ByteArray.empty y121 x10_3).size - 1 : Nat) : Int)))) = false := by (have h_ := c41b1; rw [Go.Proofs.YtdndcigppbhhdaaDoorAM.ext1] at h_; exact h_))
                                      clear c41
                                      by_cases c42 : t130 = 0
                                      · rw [if_pos c42] at H
                                        have c42b0 : (t130 == 0) = true := beq_iff_eq.mpr c42
                                        have c42b1 : (t130 != 0) = false := bne_eq_false_iff_eq.mpr c42
                                        clear c42
                                        have H' := Aside0.mk H
                                        clear H
                                        go_wp2_with (first | ((with_reducible refine gate_dst (N := 85) rfl ?_); refine Kd.R_lit (Kd.int .u8) _ 5 ?hg (N := 85) ?hd (xs := ([a2] : List Int)) (inner := [.int .u8 a2]) (ok := fun _ => True) (okp := fun _ => True) ?hr ?hp (fun _ hk => hk) trivial (Below.refl _ _) (Nat.le_refl _) (by simp) ?_; (case hd => rfl); (case hg => rfl); (case hr => first | (go_simp; done) | (go_simp; rfl)); (case hp => exact (Reps.one (show Kd.M (Kd.int .u8) _ _ _ a2 [.int .u8 a2] from rfl) (Reps.none _ _))); intro v126 w43 ho44 hb hg_ hnew_; clear hg_ hnew_; (first | rw [← Ny125.out] at ho44 | (simp only [Int.reduceToNat] at ho44; rw [← Ny125.out] at ho44)); have n0_ := Aside0.mk (Kd.R_below (by (with_reducible repeat (first | apply Kd.R_alloc | apply Kd.R_drewN | apply Kd.R_drew)); exact HO_9.out) hb); have n1_ := Aside0.mk (Kd.R_lower ho44 (below_size (by repeat (first | (with_reducible first | exact HB.out | apply below_alloc | apply pw_below_drewN | apply below_drew1) | exact HB.out)))); have n2_ := Aside0.mk (below_step (by repeat (first | (with_reducible first | exact HB.out | apply below_alloc | apply pw_below_drewN | apply below_drew1) | exact HB.out)) hb); clear HO_9; clear HB; have HO_9 := n0_; have HO127 := n1_; have HB := n2_; clear n0_ n1_ n2_; clear hb ho44; have hcv45 := own_string (P := Tryd.prog) Tryd.underlying46 Tryd.underlying5 Tryd.underlying9 (Kd.own_of_R HO127.out)) | ((with_reducible refine gate_callee (f := 31) rfl ?_); refine goesL_ (some 90) rfl rfl Tryd.func31 (by kernel_rfl) rfl #[.string ((a1 ++ ((rdOf ByteArray.empty y121 x10_3).extract 1 (rdOf ByteArray.empty y121 x10_3).size)) ++ (strOfNums y125)), .int .i64 (a1.size : Int)] rfl (by (try simp only [List.map_toArray, List.map_cons, List.map_nil]); first | done | rfl | (simp only [List.length_drop, List.length_take]; rfl)) ?_; (with_reducible refine (literal_Scan.calls kj29 ((a1 ++ ((rdOf ByteArray.empty y121 x10_3).extract 1 (rdOf ByteArray.empty y121 x10_3).size)) ++ (strOfNums y125)) (a1.size : Int) t128 t129 t130 t131 _ A39.out).mono ?_); rintro e w46 ⟨rfl, hb⟩; refine ⟨_, rfl, ?_⟩; have n0_ := Aside0.mk (Kd.R_below (by (with_reducible repeat (first | apply Kd.R_alloc | apply Kd.R_drewN | apply Kd.R_drew)); exact HO_9.out) hb); have n1_ := Aside0.mk (Kd.R_below (by (with_reducible repeat (first | apply Kd.R_alloc | apply Kd.R_drewN | apply Kd.R_drew)); exact HO127.out) hb); have n2_ := Aside0.mk (below_step (by repeat (first | (with_reducible first | exact HB.out | apply below_alloc | apply pw_below_drewN | apply below_drew1) | exact HB.out)) hb); clear HO_9; clear HO127; clear HB; have HO_9 := n0_; have HO127 := n1_; have HB := n2_; clear n0_ n1_ n2_; (try clear hb); (try clear hb2); (try clear hk); (try clear hi)) | ((with_reducible refine gate_dst (N := 15) rfl ?_); refine box_event ?hg (N := 15) ?hd (cs := #[.int .i64 0, .int .i64 0]) (t := 43) ?hr ?_; (case hd => rfl); (case hg => rfl); (case hr => first | (go_simp; done) | (go_simp; rfl)); intro gb132 hg w47 hbox hb; have n0_ := Aside0.mk (Kd.R_below (by (with_reducible repeat (first | apply Kd.R_alloc | apply Kd.R_drewN | apply Kd.R_drew)); exact HO_9.out) hb); have n1_ := Aside0.mk (Kd.R_below (by (with_reducible repeat (first | apply Kd.R_alloc | apply Kd.R_drewN | apply Kd.R_drew)); exact HO127.out) hb); have n2_ := Aside0.mk (below_step (by repeat (first | (with_reducible first | exact HB.out | apply below_alloc | apply pw_below_drewN | apply below_drew1) | exact HB.out)) hb); have n3_ := Aside0.mk (hbox); have n4_ := Aside0.mk ((by rw [hg]; exact (below_size (by repeat (first | (with_reducible first | exact HB.out | apply below_alloc | apply pw_below_drewN | apply below_drew1) | exact HB.out))) : w.heap.size ≤ gb132)); have n5_ := Aside0.mk ((by rw [hg]; exact (below_size (by repeat (first | (with_reducible first | exact HB.out | apply below_alloc | apply pw_below_drewN | apply below_drew1) | exact HB.out))) : w.heap.size ≤ gb132)); clear HO_9; clear HO127; clear HB; have HO_9 := n0_; have HO127 := n1_; have HB := n2_; have BK132 := n3_; have GW132 := n4_; have GE132 := n5_; clear n0_ n1_ n2_ n3_ n4_ n5_; clear hb hbox hg; have hcz48_0 : w47.cell? ⟨gb132, 0, none⟩ = some (.int .i64 0) := (blk_cell BK132.out 0).trans rfl; have hcz48_1 : w47.cell? ⟨gb132, 1, none⟩ = some (.int .i64 0) := (blk_cell BK132.out 1).trans rfl; have hfz48_0 := blk_frozen BK132.out 0; have hfz48_1 := blk_frozen BK132.out 1))
                                        go_roundg kj29
                                        case measure => have := HJ4.out; have := HJ17.out; have := HK3.out; have := HJ29.out; omega
                                        case rel => exact ⟨(wrap64 (x10_3 + 1)), (by first | rfl | (simp; done) | (simp [*]; done)), H', ⟨by have := HJ4.out; have := HJ17.out; have := HK3.out; have := HJ29.out; omega⟩, ⟨by (with_reducible repeat (first | apply Kd.R_alloc | apply Kd.R_drewN | apply Kd.R_drew)); exact Kd.R_mono (Kd.R_far (p := ⟨gb132, 1, none⟩) (Kd.R_far (p := ⟨gb132, 0, none⟩) (Kd.R_types HO_9.out BK132.out (by decide)) (fun _ hk => hk.2) (.int .i64 t130)) (fun _ hk => hk.2) (.int .i64 t131)) (fun _ hk => trivial)⟩, ⟨by repeat (first | (with_reducible first | exact HB.out | apply below_alloc | apply pw_below_drewN | apply below_drew1 | refine below_set ?_ GE132.out) | exact HB.out)⟩⟩
                                      · rw [if_neg c42] at H
                                        have c42b0 : (t130 == 0) = false := beq_eq_false_iff_ne.mpr c42
                                        have c42b1 : (t130 != 0) = true := bne_iff_ne.mpr c42
                                        obtain rfl := Option.some.inj H
                                        go_wp2_with (first | ((with_reducible refine gate_dst (N := 85) rfl ?_); refine Kd.R_lit (Kd.int .u8) _ 5 ?hg (N := 85) ?hd (xs := ([a2] : List Int)) (inner := [.int .u8 a2]) (ok := fun _ => True) (okp := fun _ => True) ?hr ?hp (fun _ hk => hk) trivial (Below.refl _ _) (Nat.le_refl _) (by simp) ?_; (case hd => rfl); (case hg => rfl); (case hr => first | (go_simp; done) | (go_simp; rfl)); (case hp => exact (Reps.one (show Kd.M (Kd.int .u8) _ _ _ a2 [.int .u8 a2] from rfl) (Reps.none _ _))); intro v126 w49 ho50 hb hg_ hnew_; clear hg_ hnew_; (first | rw [← Ny125.out] at ho50 | (simp only [Int.reduceToNat] at ho50; rw [← Ny125.out] at ho50)); have n0_ := Aside0.mk (Kd.R_below (by (with_reducible repeat (first | apply Kd.R_alloc | apply Kd.R_drewN | apply Kd.R_drew)); exact HO_9.out) hb); have n1_ := Aside0.mk (Kd.R_lower ho50 (below_size (by repeat (first | (with_reducible first | exact HB.out | apply below_alloc | apply pw_below_drewN | apply below_drew1) | exact HB.out)))); have n2_ := Aside0.mk (below_step (by repeat (first | (with_reducible first | exact HB.out | apply below_alloc | apply pw_below_drewN | apply below_drew1) | exact HB.out)) hb); clear HO_9; clear HB; have HO_9 := n0_; have HO127 := n1_; have HB := n2_; clear n0_ n1_ n2_; clear hb ho50; have hcv51 := own_string (P := Tryd.prog) Tryd.underlying46 Tryd.underlying5 Tryd.underlying9 (Kd.own_of_R HO127.out)) | ((with_reducible refine gate_callee (f := 31) rfl ?_); refine goesL_ (some 90) rfl rfl Tryd.func31 (by kernel_rfl) rfl #[.string ((a1 ++ ((rdOf ByteArray.empty y121 x10_3).extract 1 (rdOf ByteArray.empty y121 x10_3).size)) ++ (strOfNums y125)), .int .i64 (a1.size : Int)] rfl (by (try simp only [List.map_toArray, List.map_cons, List.map_nil]); first | done | rfl | (simp only [List.length_drop, List.length_take]; rfl)) ?_; (with_reducible refine (literal_Scan.calls kj29 ((a1 ++ ((rdOf ByteArray.empty y121 x10_3).extract 1 (rdOf ByteArray.empty y121 x10_3).size)) ++ (strOfNums y125)) (a1.size : Int) t128 t129 t130 t131 _ A39.out).mono ?_); rintro e w52 ⟨rfl, hb⟩; refine ⟨_, rfl, ?_⟩; have n0_ := Aside0.mk (Kd.R_below (by (with_reducible repeat (first | apply Kd.R_alloc | apply Kd.R_drewN | apply Kd.R_drew)); exact HO_9.out) hb); have n1_ := Aside0.mk (Kd.R_below (by (with_reducible repeat (first | apply Kd.R_alloc | apply Kd.R_drewN | apply Kd.R_drew)); exact HO127.out) hb); have n2_ := Aside0.mk (below_step (by repeat (first | (with_reducible first | exact HB.out | apply below_alloc | apply pw_below_drewN | apply below_drew1) | exact HB.out)) hb); clear HO_9; clear HO127; clear HB; have HO_9 := n0_; have HO127 := n1_; have HB := n2_; clear n0_ n1_ n2_; (try clear hb); (try clear hb2); (try clear hk); (try clear hi)) | ((with_reducible refine gate_dst (N := 15) rfl ?_); refine box_event ?hg (N := 15) ?hd (cs := #[.int .i64 0, .int .i64 0]) (t := 43) ?hr ?_; (case hd => rfl); (case hg => rfl); (case hr => first | (go_simp; done) | (go_simp; rfl)); intro gb132 hg w53 hbox hb; have n0_ := Aside0.mk (Kd.R_below (by (with_reducible repeat (first | apply Kd.R_alloc | apply Kd.R_drewN | apply Kd.R_drew)); exact HO_9.out) hb); have n1_ := Aside0.mk (Kd.R_below (by (with_reducible repeat (first | apply Kd.R_alloc | apply Kd.R_drewN | apply Kd.R_drew)); exact HO127.out) hb); have n2_ := Aside0.mk (below_step (by repeat (first | (with_reducible first | exact HB.out | apply below_alloc | apply pw_below_drewN | apply below_drew1) | exact HB.out)) hb); have n3_ := Aside0.mk (hbox); have n4_ := Aside0.mk ((by rw [hg]; exact (below_size (by repeat (first | (with_reducible first | exact HB.out | apply below_alloc | apply pw_below_drewN | apply below_drew1) | exact HB.out))) : w.heap.size ≤ gb132)); have n5_ := Aside0.mk ((by rw [hg]; exact (below_size (by repeat (first | (with_reducible first | exact HB.out | apply below_alloc | apply pw_below_drewN | apply below_drew1) | exact HB.out))) : w.heap.size ≤ gb132)); clear HO_9; clear HO127; clear HB; have HO_9 := n0_; have HO127 := n1_; have HB := n2_; have BK132 := n3_; have GW132 := n4_; have GE132 := n5_; clear n0_ n1_ n2_ n3_ n4_ n5_; clear hb hbox hg; have hcz54_0 : w53.cell? ⟨gb132, 0, none⟩ = some (.int .i64 0) := (blk_cell BK132.out 0).trans rfl; have hcz54_1 : w53.cell? ⟨gb132, 1, none⟩ = some (.int .i64 0) := (blk_cell BK132.out 1).trans rfl; have hfz54_0 := blk_frozen BK132.out 0; have hfz54_1 := blk_frozen BK132.out 1))
                                        go_ret
                                        exact ⟨by first | rfl | (simp [errW_none, errW_some] <;> rfl) | (simp [*, errW_none, errW_some] <;> rfl), by repeat (first | (with_reducible first | exact HB.out | apply below_alloc | apply pw_below_drewN | apply below_drew1 | refine below_set ?_ GE132.out) | exact HB.out)⟩
                                    · rw [if_neg c41] at H
                                      have c41b0 : (t129 == (wrap64 ((a1.size : Int) + (((rdOf ByteArray.empty y121 x10_3).extract 1 (rdOf ByteArray.empty y121 x10_3).size).size : Int)))) = false := beq_eq_false_iff_ne.mpr c41
                                      (have c41b0x : (t129 == (wrap64 ((a1.size : Int) + (((rdOf ByteArray.empty y121 x10_3).size - 1 : Nat) : Int)))) = false := by (have h_ := c41b0; rw [Go.Proofs.YtdndcigppbhhdaaDoorAM.ext1] at h_; exact h_))
                                      have c41b1 : (t129 != (wrap64 ((a1.size : Int) + (((rdOf ByteArray.empty y121 x10_3).extract 1 (rdOf ByteArray.empty y121 x10_3).size).size : Int)))) = true := bne_iff_ne.mpr c41
                                      (have c41b1x : (t129 != (wrap64 ((a1.size : Int) + (((rdOf ByteArray.empty y121 x10_3).size - 1 : Nat) : Int)))) = true := by (have h_ := c41b1; rw [Go.Proofs.YtdndcigppbhhdaaDoorAM.ext1] at h_; exact h_))
                                      obtain rfl := Option.some.inj H
                                      go_wp2_with (first | ((with_reducible refine gate_dst (N := 85) rfl ?_); refine Kd.R_lit (Kd.int .u8) _ 5 ?hg (N := 85) ?hd (xs := ([a2] : List Int)) (inner := [.int .u8 a2]) (ok := fun _ => True) (okp := fun _ => True) ?hr ?hp (fun _ hk => hk) trivial (Below.refl _ _) (Nat.le_refl _) (by simp) ?_; (case hd => rfl); (case hg => rfl); (case hr => first | (go_simp; done) | (go_simp; rfl)); (case hp => exact (Reps.one (show Kd.M (Kd.int .u8) _ _ _ a2 [.int .u8 a2] from rfl) (Reps.none _ _))); intro v126 w55 ho56 hb hg_ hnew_; clear hg_ hnew_; (first | rw [← Ny125.out] at ho56 | (simp only [Int.reduceToNat] at ho56; rw [← Ny125.out] at ho56)); have n0_ := Aside0.mk (Kd.R_below (by (with_reducible repeat (first | apply Kd.R_alloc | apply Kd.R_drewN | apply Kd.R_drew)); exact HO_9.out) hb); have n1_ := Aside0.mk (Kd.R_lower ho56 (below_size (by repeat (first | (with_reducible first | exact HB.out | apply below_alloc | apply pw_below_drewN | apply below_drew1) | exact HB.out)))); have n2_ := Aside0.mk (below_step (by repeat (first | (with_reducible first | exact HB.out | apply below_alloc | apply pw_below_drewN | apply below_drew1) | exact HB.out)) hb); clear HO_9; clear HB; have HO_9 := n0_; have HO127 := n1_; have HB := n2_; clear n0_ n1_ n2_; clear hb ho56; have hcv57 := own_string (P := Tryd.prog) Tryd.underlying46 Tryd.underlying5 Tryd.underlying9 (Kd.own_of_R HO127.out)) | ((with_reducible refine gate_callee (f := 31) rfl ?_); refine goesL_ (some 90) rfl rfl Tryd.func31 (by kernel_rfl) rfl #[.string ((a1 ++ ((rdOf ByteArray.empty y121 x10_3).extract 1 (rdOf ByteArray.empty y121 x10_3).size)) ++ (strOfNums y125)), .int .i64 (a1.size : Int)] rfl (by (try simp only [List.map_toArray, List.map_cons, List.map_nil]); first | done | rfl | (simp only [List.length_drop, List.length_take]; rfl)) ?_; (with_reducible refine (literal_Scan.calls kj29 ((a1 ++ ((rdOf ByteArray.empty y121 x10_3).extract 1 (rdOf ByteArray.empty y121 x10_3).size)) ++ (strOfNums y125)) (a1.size : Int) t128 t129 t130 t131 _ A39.out).mono ?_); rintro e w58 ⟨rfl, hb⟩; refine ⟨_, rfl, ?_⟩; have n0_ := Aside0.mk (Kd.R_below (by (with_reducible repeat (first | apply Kd.R_alloc | apply Kd.R_drewN | apply Kd.R_drew)); exact HO_9.out) hb); have n1_ := Aside0.mk (Kd.R_below (by (with_reducible repeat (first | apply Kd.R_alloc | apply Kd.R_drewN | apply Kd.R_drew)); exact HO127.out) hb); have n2_ := Aside0.mk (below_step (by repeat (first | (with_reducible first | exact HB.out | apply below_alloc | apply pw_below_drewN | apply below_drew1) | exact HB.out)) hb); clear HO_9; clear HO127; clear HB; have HO_9 := n0_; have HO127 := n1_; have HB := n2_; clear n0_ n1_ n2_; (try clear hb); (try clear hb2); (try clear hk); (try clear hi)) | ((with_reducible refine gate_dst (N := 15) rfl ?_); refine box_event ?hg (N := 15) ?hd (cs := #[.int .i64 0, .int .i64 0]) (t := 43) ?hr ?_; (case hd => rfl); (case hg => rfl); (case hr => first | (go_simp; done) | (go_simp; rfl)); intro gb132 hg w59 hbox hb; have n0_ := Aside0.mk (Kd.R_below (by (with_reducible repeat (first | apply Kd.R_alloc | apply Kd.R_drewN | apply Kd.R_drew)); exact HO_9.out) hb); have n1_ := Aside0.mk (Kd.R_below (by (with_reducible repeat (first | apply Kd.R_alloc | apply Kd.R_drewN | apply Kd.R_drew)); exact HO127.out) hb); have n2_ := Aside0.mk (below_step (by repeat (first | (with_reducible first | exact HB.out | apply below_alloc | apply pw_below_drewN | apply below_drew1) | exact HB.out)) hb); have n3_ := Aside0.mk (hbox); have n4_ := Aside0.mk ((by rw [hg]; exact (below_size (by repeat (first | (with_reducible first | exact HB.out | apply below_alloc | apply pw_below_drewN | apply below_drew1) | exact HB.out))) : w.heap.size ≤ gb132)); have n5_ := Aside0.mk ((by rw [hg]; exact (below_size (by repeat (first | (with_reducible first | exact HB.out | apply below_alloc | apply pw_below_drewN | apply below_drew1) | exact HB.out))) : w.heap.size ≤ gb132)); clear HO_9; clear HO127; clear HB; have HO_9 := n0_; have HO127 := n1_; have HB := n2_; have BK132 := n3_; have GW132 := n4_; have GE132 := n5_; clear n0_ n1_ n2_ n3_ n4_ n5_; clear hb hbox hg; have hcz60_0 : w59.cell? ⟨gb132, 0, none⟩ = some (.int .i64 0) := (blk_cell BK132.out 0).trans rfl; have hcz60_1 : w59.cell? ⟨gb132, 1, none⟩ = some (.int .i64 0) := (blk_cell BK132.out 1).trans rfl; have hfz60_0 := blk_frozen BK132.out 0; have hfz60_1 := blk_frozen BK132.out 1))
                                      go_ret
                                      exact ⟨by first | rfl | (simp [errW_none, errW_some] <;> rfl) | (simp [*, errW_none, errW_some] <;> rfl), by repeat (first | (with_reducible first | exact HB.out | apply below_alloc | apply pw_below_drewN | apply below_drew1 | refine below_set ?_ GE132.out) | exact HB.out)⟩
                                  · rw [if_neg c40] at H
                                    have c40b0 : (t128 == (wrap64 (-a0))) = false := beq_eq_false_iff_ne.mpr c40
                                    have c40b1 : (t128 != (wrap64 (-a0))) = true := bne_iff_ne.mpr c40
                                    obtain rfl := Option.some.inj H
                                    go_wp2_with (first | ((with_reducible refine gate_dst (N := 85) rfl ?_); refine Kd.R_lit (Kd.int .u8) _ 5 ?hg (N := 85) ?hd (xs := ([a2] : List Int)) (inner := [.int .u8 a2]) (ok := fun _ => True) (okp := fun _ => True) ?hr ?hp (fun _ hk => hk) trivial (Below.refl _ _) (Nat.le_refl _) (by simp) ?_; (case hd => rfl); (case hg => rfl); (case hr => first | (go_simp; done) | (go_simp; rfl)); (case hp => exact (Reps.one (show Kd.M (Kd.int .u8) _ _ _ a2 [.int .u8 a2] from rfl) (Reps.none _ _))); intro v126 w61 ho62 hb hg_ hnew_; clear hg_ hnew_; (first | rw [← Ny125.out] at ho62 | (simp only [Int.reduceToNat] at ho62; rw [← Ny125.out] at ho62)); have n0_ := Aside0.mk (Kd.R_below (by (with_reducible repeat (first | apply Kd.R_alloc | apply Kd.R_drewN | apply Kd.R_drew)); exact HO_9.out) hb); have n1_ := Aside0.mk (Kd.R_lower ho62 (below_size (by repeat (first | (with_reducible first | exact HB.out | apply below_alloc | apply pw_below_drewN | apply below_drew1) | exact HB.out)))); have n2_ := Aside0.mk (below_step (by repeat (first | (with_reducible first | exact HB.out | apply below_alloc | apply pw_below_drewN | apply below_drew1) | exact HB.out)) hb); clear HO_9; clear HB; have HO_9 := n0_; have HO127 := n1_; have HB := n2_; clear n0_ n1_ n2_; clear hb ho62; have hcv63 := own_string (P := Tryd.prog) Tryd.underlying46 Tryd.underlying5 Tryd.underlying9 (Kd.own_of_R HO127.out)) | ((with_reducible refine gate_callee (f := 31) rfl ?_); refine goesL_ (some 90) rfl rfl Tryd.func31 (by kernel_rfl) rfl #[.string ((a1 ++ ((rdOf ByteArray.empty y121 x10_3).extract 1 (rdOf ByteArray.empty y121 x10_3).size)) ++ (strOfNums y125)), .int .i64 (a1.size : Int)] rfl (by (try simp only [List.map_toArray, List.map_cons, List.map_nil]); first | done | rfl | (simp only [List.length_drop, List.length_take]; rfl)) ?_; (with_reducible refine (literal_Scan.calls kj29 ((a1 ++ ((rdOf ByteArray.empty y121 x10_3).extract 1 (rdOf ByteArray.empty y121 x10_3).size)) ++ (strOfNums y125)) (a1.size : Int) t128 t129 t130 t131 _ A39.out).mono ?_); rintro e w64 ⟨rfl, hb⟩; refine ⟨_, rfl, ?_⟩; have n0_ := Aside0.mk (Kd.R_below (by (with_reducible repeat (first | apply Kd.R_alloc | apply Kd.R_drewN | apply Kd.R_drew)); exact HO_9.out) hb); have n1_ := Aside0.mk (Kd.R_below (by (with_reducible repeat (first | apply Kd.R_alloc | apply Kd.R_drewN | apply Kd.R_drew)); exact HO127.out) hb); have n2_ := Aside0.mk (below_step (by repeat (first | (with_reducible first | exact HB.out | apply below_alloc | apply pw_below_drewN | apply below_drew1) | exact HB.out)) hb); clear HO_9; clear HO127; clear HB; have HO_9 := n0_; have HO127 := n1_; have HB := n2_; clear n0_ n1_ n2_; (try clear hb); (try clear hb2); (try clear hk); (try clear hi)) | ((with_reducible refine gate_dst (N := 15) rfl ?_); refine box_event ?hg (N := 15) ?hd (cs := #[.int .i64 0, .int .i64 0]) (t := 43) ?hr ?_; (case hd => rfl); (case hg => rfl); (case hr => first | (go_simp; done) | (go_simp; rfl)); intro gb132 hg w65 hbox hb; have n0_ := Aside0.mk (Kd.R_below (by (with_reducible repeat (first | apply Kd.R_alloc | apply Kd.R_drewN | apply Kd.R_drew)); exact HO_9.out) hb); have n1_ := Aside0.mk (Kd.R_below (by (with_reducible repeat (first | apply Kd.R_alloc | apply Kd.R_drewN | apply Kd.R_drew)); exact HO127.out) hb); have n2_ := Aside0.mk (below_step (by repeat (first | (with_reducible first | exact HB.out | apply below_alloc | apply pw_below_drewN | apply below_drew1) | exact HB.out)) hb); have n3_ := Aside0.mk (hbox); have n4_ := Aside0.mk ((by rw [hg]; exact (below_size (by repeat (first | (with_reducible first | exact HB.out | apply below_alloc | apply pw_below_drewN | apply below_drew1) | exact HB.out))) : w.heap.size ≤ gb132)); have n5_ := Aside0.mk ((by rw [hg]; exact (below_size (by repeat (first | (with_reducible first | exact HB.out | apply below_alloc | apply pw_below_drewN | apply below_drew1) | exact HB.out))) : w.heap.size ≤ gb132)); clear HO_9; clear HO127; clear HB; have HO_9 := n0_; have HO127 := n1_; have HB := n2_; have BK132 := n3_; have GW132 := n4_; have GE132 := n5_; clear n0_ n1_ n2_ n3_ n4_ n5_; clear hb hbox hg; have hcz66_0 : w65.cell? ⟨gb132, 0, none⟩ = some (.int .i64 0) := (blk_cell BK132.out 0).trans rfl; have hcz66_1 : w65.cell? ⟨gb132, 1, none⟩ = some (.int .i64 0) := (blk_cell BK132.out 1).trans rfl; have hfz66_0 := blk_frozen BK132.out 0; have hfz66_1 := blk_frozen BK132.out 1))
                                    go_ret
                                    exact ⟨by first | rfl | (simp [errW_none, errW_some] <;> rfl) | (simp [*, errW_none, errW_some] <;> rfl), by repeat (first | (with_reducible first | exact HB.out | apply below_alloc | apply pw_below_drewN | apply below_drew1 | refine below_set ?_ GE132.out) | exact HB.out)⟩
                                · rw [if_neg c38] at H
                                  exact absurd H (by simp)
                              · rw [if_neg c37] at H
                                exact absurd H (by simp)
                            · rw [if_neg c36] at H
                              exact absurd H (by simp)
                    · rw [if_neg c29] at H
                      have c29b0 : decide (a0 < 0) = false := decide_eq_false c29
                      clear c29
                      by_cases c67 : a1.size + (rdOf ByteArray.empty y121 x10_3).size ≤ 9223372036854775807
                      · rw [if_pos c67] at H
                        have c67b0 := eq_true c67
                        have c67b1 : decide (a1.size + (rdOf ByteArray.empty y121 x10_3).size ≤ 9223372036854775807) = true := decide_eq_true c67
                        try have c67b2 : (9223372036854775807 < a1.size + (rdOf ByteArray.empty y121 x10_3).size) = False := eq_false (Nat.not_lt.2 c67)
                        obtain ⟨y133, hy133⟩ : ∃ y_ : List Int, y_ = (([a2] : List Int)) := ⟨_, rfl⟩
                        replace H : (if (a1 ++ (rdOf ByteArray.empty y121 x10_3)).size + (strOfNums y133).size ≤ 9223372036854775807 then ((literal_Scan.f k3 ((a1 ++ (rdOf ByteArray.empty y121 x10_3)) ++ (strOfNums y133)) (a1.size : Int)).bind fun bt136 => (if bt136.1 = a0 then (if bt136.2.1 = (wrap64 ((a1.size : Int) + ((rdOf ByteArray.empty y121 x10_3).size : Int))) then (if bt136.2.2.1 = 0 then (linotypelaw02_LiteralBack.l0 k3 a0 a1 a2 t118 y121 (wrap64 (x10_3 + 1))) else (some false)) else (some false)) else (some false))) else (none)) = some r := by first | (rw [hy133]; with_reducible exact H) | (have H2_ := (Option.bind_some _ _).symm.trans H; rw [hy133]; with_reducible exact H2_) | (have H2_ := (Option.bind_some _ _).symm.trans H; with_reducible exact H2_) | with_reducible exact H | (rw [hy133]; exact H) | exact H
                        have Ny133 := Aside0.mk hy133
                        clear hy133
                        by_cases c68 : (a1 ++ (rdOf ByteArray.empty y121 x10_3)).size + (strOfNums y133).size ≤ 9223372036854775807
                        · rw [if_pos c68] at H
                          have c68b0 := eq_true c68
                          have c68b1 : decide ((a1 ++ (rdOf ByteArray.empty y121 x10_3)).size + (strOfNums y133).size ≤ 9223372036854775807) = true := decide_eq_true c68
                          try have c68b2 : (9223372036854775807 < (a1 ++ (rdOf ByteArray.empty y121 x10_3)).size + (strOfNums y133).size) = False := eq_false (Nat.not_lt.2 c68)
                          (try (have c68b3 : (9223372036854775807 < (a1 ++ (rdOf ByteArray.empty y121 x10_3)).size + (strOfNums y133).size) = False := c68b2; simp only [ByteArray.size_append, Go.Proofs.YtdndcigppbhhdaaDoorAM.sz1, Go.Proofs.YtdndcigppbhhdaaDoorAM.sz2] at c68b3))
                          replace H := Option.bind_eq_some_iff.mp H
                          obtain ⟨⟨t136, t137, t138, t139⟩, A690, H⟩ := H
                          replace H : (if t136 = a0 then (if t137 = (wrap64 ((a1.size : Int) + ((rdOf ByteArray.empty y121 x10_3).size : Int))) then (if t138 = 0 then (linotypelaw02_LiteralBack.l0 k3 a0 a1 a2 t118 y121 (wrap64 (x10_3 + 1))) else (some false)) else (some false)) else (some false)) = some r := H
                          have A69 := Aside0.mk A690
                          clear A690
                          by_cases c70 : t136 = a0
                          · rw [if_pos c70] at H
                            have c70b0 : (t136 == a0) = true := beq_iff_eq.mpr c70
                            have c70b1 : (t136 != a0) = false := bne_eq_false_iff_eq.mpr c70
                            clear c70
                            by_cases c71 : t137 = (wrap64 ((a1.size : Int) + ((rdOf ByteArray.empty y121 x10_3).size : Int)))
                            · rw [if_pos c71] at H
                              have c71b0 : (t137 == (wrap64 ((a1.size : Int) + ((rdOf ByteArray.empty y121 x10_3).size : Int)))) = true := beq_iff_eq.mpr c71
                              (have c71b0x : (t137 == ((a1.size : Int) + ((rdOf ByteArray.empty y121 x10_3).size : Int))) = true := by (have h_ := c71b0; rw [Go.Proofs.YtdndcigppbhhdaaDoorAM.w64 (by omega) (by omega)] at h_; exact h_))
                              have c71b1 : (t137 != (wrap64 ((a1.size : Int) + ((rdOf ByteArray.empty y121 x10_3).size : Int)))) = false := bne_eq_false_iff_eq.mpr c71
                              (have c71b1x : (t137 != ((a1.size : Int) + ((rdOf ByteArray.empty y121 x10_3).size : Int))) = false := by (have h_ := c71b1; rw [Go.Proofs.YtdndcigppbhhdaaDoorAM.w64 (by omega) (by omega)] at h_; exact h_))
                              clear c71
                              by_cases c72 : t138 = 0
                              · rw [if_pos c72] at H
                                have c72b0 : (t138 == 0) = true := beq_iff_eq.mpr c72
                                have c72b1 : (t138 != 0) = false := bne_eq_false_iff_eq.mpr c72
                                clear c72
                                have H' := Aside0.mk H
                                clear H
                                obtain ⟨Ao73, co73, eo73⟩ := Kd.R_slice HO_9.out
                                subst eo73
                                have p124 : 0 ≤ (x10_3 : Int) := of_decide_eq_true (by first | (with_reducible assumption) | assumption)
                                have q124 : x10_3 < (y121.length : Int) := of_decide_eq_true (by first | (with_reducible assumption) | assumption)
                                obtain ⟨ad124, e124, hx124_0⟩ := Kd.at_string (Kd.R_reads' HO_9.out).2.2 x10_3 p124 q124
                                cases e124
                                replace p124 := eq_true p124
                                replace q124 := eq_true q124
                                go_wp2_with (first | ((with_reducible refine gate_dst (N := 85) rfl ?_); refine Kd.R_lit (Kd.int .u8) _ 5 ?hg (N := 85) ?hd (xs := ([a2] : List Int)) (inner := [.int .u8 a2]) (ok := fun _ => True) (okp := fun _ => True) ?hr ?hp (fun _ hk => hk) trivial (Below.refl _ _) (Nat.le_refl _) (by simp) ?_; (case hd => rfl); (case hg => rfl); (case hr => first | (go_simp; done) | (go_simp; rfl)); (case hp => exact (Reps.one (show Kd.M (Kd.int .u8) _ _ _ a2 [.int .u8 a2] from rfl) (Reps.none _ _))); intro v134 w74 ho75 hb hg_ hnew_; clear hg_ hnew_; (first | rw [← Ny133.out] at ho75 | (simp only [Int.reduceToNat] at ho75; rw [← Ny133.out] at ho75)); have n0_ := Aside0.mk (Kd.R_below (by (with_reducible repeat (first | apply Kd.R_alloc | apply Kd.R_drewN | apply Kd.R_drew)); exact HO_9.out) hb); have n1_ := Aside0.mk (Kd.R_lower ho75 (below_size (by repeat (first | (with_reducible first | exact HB.out | apply below_alloc | apply pw_below_drewN | apply below_drew1) | exact HB.out)))); have n2_ := Aside0.mk (below_step (by repeat (first | (with_reducible first | exact HB.out | apply below_alloc | apply pw_below_drewN | apply below_drew1) | exact HB.out)) hb); clear HO_9; clear HB; have HO_9 := n0_; have HO135 := n1_; have HB := n2_; clear n0_ n1_ n2_; clear hb ho75; have hcv76 := own_string (P := Tryd.prog) Tryd.underlying46 Tryd.underlying5 Tryd.underlying9 (Kd.own_of_R HO135.out)) | ((with_reducible refine gate_callee (f := 31) rfl ?_); refine goesL_ (some 90) rfl rfl Tryd.func31 (by kernel_rfl) rfl #[.string ((a1 ++ (rdOf ByteArray.empty y121 x10_3)) ++ (strOfNums y133)), .int .i64 (a1.size : Int)] rfl (by (try simp only [List.map_toArray, List.map_cons, List.map_nil]); first | done | rfl | (simp only [List.length_drop, List.length_take]; rfl)) ?_; (with_reducible refine (literal_Scan.calls k3 ((a1 ++ (rdOf ByteArray.empty y121 x10_3)) ++ (strOfNums y133)) (a1.size : Int) t136 t137 t138 t139 _ A69.out).mono ?_); rintro e w77 ⟨rfl, hb⟩; refine ⟨_, rfl, ?_⟩; have n0_ := Aside0.mk (Kd.R_below (by (with_reducible repeat (first | apply Kd.R_alloc | apply Kd.R_drewN | apply Kd.R_drew)); exact HO_9.out) hb); have n1_ := Aside0.mk (Kd.R_below (by (with_reducible repeat (first | apply Kd.R_alloc | apply Kd.R_drewN | apply Kd.R_drew)); exact HO135.out) hb); have n2_ := Aside0.mk (below_step (by repeat (first | (with_reducible first | exact HB.out | apply below_alloc | apply pw_below_drewN | apply below_drew1) | exact HB.out)) hb); clear HO_9; clear HO135; clear HB; have HO_9 := n0_; have HO135 := n1_; have HB := n2_; clear n0_ n1_ n2_; (try clear hb); (try clear hb2); (try clear hk); (try clear hi)) | ((with_reducible refine gate_dst (N := 15) rfl ?_); refine box_event ?hg (N := 15) ?hd (cs := #[.int .i64 0, .int .i64 0]) (t := 43) ?hr ?_; (case hd => rfl); (case hg => rfl); (case hr => first | (go_simp; done) | (go_simp; rfl)); intro gb140 hg w78 hbox hb; have n0_ := Aside0.mk (Kd.R_below (by (with_reducible repeat (first | apply Kd.R_alloc | apply Kd.R_drewN | apply Kd.R_drew)); exact HO_9.out) hb); have n1_ := Aside0.mk (Kd.R_below (by (with_reducible repeat (first | apply Kd.R_alloc | apply Kd.R_drewN | apply Kd.R_drew)); exact HO135.out) hb); have n2_ := Aside0.mk (below_step (by repeat (first | (with_reducible first | exact HB.out | apply below_alloc | apply pw_below_drewN | apply below_drew1) | exact HB.out)) hb); have n3_ := Aside0.mk (hbox); have n4_ := Aside0.mk ((by rw [hg]; exact (below_size (by repeat (first | (with_reducible first | exact HB.out | apply below_alloc | apply pw_below_drewN | apply below_drew1) | exact HB.out))) : w.heap.size ≤ gb140)); have n5_ := Aside0.mk ((by rw [hg]; exact (below_size (by repeat (first | (with_reducible first | exact HB.out | apply below_alloc | apply pw_below_drewN | apply below_drew1) | exact HB.out))) : w.heap.size ≤ gb140)); clear HO_9; clear HO135; clear HB; have HO_9 := n0_; have HO135 := n1_; have HB := n2_; have BK140 := n3_; have GW140 := n4_; have GE140 := n5_; clear n0_ n1_ n2_ n3_ n4_ n5_; clear hb hbox hg; have hcz79_0 : w78.cell? ⟨gb140, 0, none⟩ = some (.int .i64 0) := (blk_cell BK140.out 0).trans rfl; have hcz79_1 : w78.cell? ⟨gb140, 1, none⟩ = some (.int .i64 0) := (blk_cell BK140.out 1).trans rfl; have hfz79_0 := blk_frozen BK140.out 0; have hfz79_1 := blk_frozen BK140.out 1))
                                go_roundg k3
                                case measure => have := HJ4.out; have := HJ17.out; have := HK3.out; omega
                                case rel => exact ⟨(wrap64 (x10_3 + 1)), (by first | rfl | (simp; done) | (simp [*]; done)), H', ⟨by have := HJ4.out; have := HJ17.out; have := HK3.out; omega⟩, ⟨by (with_reducible repeat (first | apply Kd.R_alloc | apply Kd.R_drewN | apply Kd.R_drew)); exact Kd.R_mono (Kd.R_far (p := ⟨gb140, 1, none⟩) (Kd.R_far (p := ⟨gb140, 0, none⟩) (Kd.R_types HO_9.out BK140.out (by decide)) (fun _ hk => hk.2) (.int .i64 t138)) (fun _ hk => hk.2) (.int .i64 t139)) (fun _ hk => trivial)⟩, ⟨by repeat (first | (with_reducible first | exact HB.out | apply below_alloc | apply pw_below_drewN | apply below_drew1 | refine below_set ?_ GE140.out) | exact HB.out)⟩⟩
                              · rw [if_neg c72] at H
                                have c72b0 : (t138 == 0) = false := beq_eq_false_iff_ne.mpr c72
                                have c72b1 : (t138 != 0) = true := bne_iff_ne.mpr c72
                                obtain rfl := Option.some.inj H
                                obtain ⟨Ao80, co80, eo80⟩ := Kd.R_slice HO_9.out
                                subst eo80
                                have p124 : 0 ≤ (x10_3 : Int) := of_decide_eq_true (by first | (with_reducible assumption) | assumption)
                                have q124 : x10_3 < (y121.length : Int) := of_decide_eq_true (by first | (with_reducible assumption) | assumption)
                                obtain ⟨ad124, e124, hx124_0⟩ := Kd.at_string (Kd.R_reads' HO_9.out).2.2 x10_3 p124 q124
                                cases e124
                                replace p124 := eq_true p124
                                replace q124 := eq_true q124
                                go_wp2_with (first | ((with_reducible refine gate_dst (N := 85) rfl ?_); refine Kd.R_lit (Kd.int .u8) _ 5 ?hg (N := 85) ?hd (xs := ([a2] : List Int)) (inner := [.int .u8 a2]) (ok := fun _ => True) (okp := fun _ => True) ?hr ?hp (fun _ hk => hk) trivial (Below.refl _ _) (Nat.le_refl _) (by simp) ?_; (case hd => rfl); (case hg => rfl); (case hr => first | (go_simp; done) | (go_simp; rfl)); (case hp => exact (Reps.one (show Kd.M (Kd.int .u8) _ _ _ a2 [.int .u8 a2] from rfl) (Reps.none _ _))); intro v134 w81 ho82 hb hg_ hnew_; clear hg_ hnew_; (first | rw [← Ny133.out] at ho82 | (simp only [Int.reduceToNat] at ho82; rw [← Ny133.out] at ho82)); have n0_ := Aside0.mk (Kd.R_below (by (with_reducible repeat (first | apply Kd.R_alloc | apply Kd.R_drewN | apply Kd.R_drew)); exact HO_9.out) hb); have n1_ := Aside0.mk (Kd.R_lower ho82 (below_size (by repeat (first | (with_reducible first | exact HB.out | apply below_alloc | apply pw_below_drewN | apply below_drew1) | exact HB.out)))); have n2_ := Aside0.mk (below_step (by repeat (first | (with_reducible first | exact HB.out | apply below_alloc | apply pw_below_drewN | apply below_drew1) | exact HB.out)) hb); clear HO_9; clear HB; have HO_9 := n0_; have HO135 := n1_; have HB := n2_; clear n0_ n1_ n2_; clear hb ho82; have hcv83 := own_string (P := Tryd.prog) Tryd.underlying46 Tryd.underlying5 Tryd.underlying9 (Kd.own_of_R HO135.out)) | ((with_reducible refine gate_callee (f := 31) rfl ?_); refine goesL_ (some 90) rfl rfl Tryd.func31 (by kernel_rfl) rfl #[.string ((a1 ++ (rdOf ByteArray.empty y121 x10_3)) ++ (strOfNums y133)), .int .i64 (a1.size : Int)] rfl (by (try simp only [List.map_toArray, List.map_cons, List.map_nil]); first | done | rfl | (simp only [List.length_drop, List.length_take]; rfl)) ?_; (with_reducible refine (literal_Scan.calls k3 ((a1 ++ (rdOf ByteArray.empty y121 x10_3)) ++ (strOfNums y133)) (a1.size : Int) t136 t137 t138 t139 _ A69.out).mono ?_); rintro e w84 ⟨rfl, hb⟩; refine ⟨_, rfl, ?_⟩; have n0_ := Aside0.mk (Kd.R_below (by (with_reducible repeat (first | apply Kd.R_alloc | apply Kd.R_drewN | apply Kd.R_drew)); exact HO_9.out) hb); have n1_ := Aside0.mk (Kd.R_below (by (with_reducible repeat (first | apply Kd.R_alloc | apply Kd.R_drewN | apply Kd.R_drew)); exact HO135.out) hb); have n2_ := Aside0.mk (below_step (by repeat (first | (with_reducible first | exact HB.out | apply below_alloc | apply pw_below_drewN | apply below_drew1) | exact HB.out)) hb); clear HO_9; clear HO135; clear HB; have HO_9 := n0_; have HO135 := n1_; have HB := n2_; clear n0_ n1_ n2_; (try clear hb); (try clear hb2); (try clear hk); (try clear hi)) | ((with_reducible refine gate_dst (N := 15) rfl ?_); refine box_event ?hg (N := 15) ?hd (cs := #[.int .i64 0, .int .i64 0]) (t := 43) ?hr ?_; (case hd => rfl); (case hg => rfl); (case hr => first | (go_simp; done) | (go_simp; rfl)); intro gb140 hg w85 hbox hb; have n0_ := Aside0.mk (Kd.R_below (by (with_reducible repeat (first | apply Kd.R_alloc | apply Kd.R_drewN | apply Kd.R_drew)); exact HO_9.out) hb); have n1_ := Aside0.mk (Kd.R_below (by (with_reducible repeat (first | apply Kd.R_alloc | apply Kd.R_drewN | apply Kd.R_drew)); exact HO135.out) hb); have n2_ := Aside0.mk (below_step (by repeat (first | (with_reducible first | exact HB.out | apply below_alloc | apply pw_below_drewN | apply below_drew1) | exact HB.out)) hb); have n3_ := Aside0.mk (hbox); have n4_ := Aside0.mk ((by rw [hg]; exact (below_size (by repeat (first | (with_reducible first | exact HB.out | apply below_alloc | apply pw_below_drewN | apply below_drew1) | exact HB.out))) : w.heap.size ≤ gb140)); have n5_ := Aside0.mk ((by rw [hg]; exact (below_size (by repeat (first | (with_reducible first | exact HB.out | apply below_alloc | apply pw_below_drewN | apply below_drew1) | exact HB.out))) : w.heap.size ≤ gb140)); clear HO_9; clear HO135; clear HB; have HO_9 := n0_; have HO135 := n1_; have HB := n2_; have BK140 := n3_; have GW140 := n4_; have GE140 := n5_; clear n0_ n1_ n2_ n3_ n4_ n5_; clear hb hbox hg; have hcz86_0 : w85.cell? ⟨gb140, 0, none⟩ = some (.int .i64 0) := (blk_cell BK140.out 0).trans rfl; have hcz86_1 : w85.cell? ⟨gb140, 1, none⟩ = some (.int .i64 0) := (blk_cell BK140.out 1).trans rfl; have hfz86_0 := blk_frozen BK140.out 0; have hfz86_1 := blk_frozen BK140.out 1))
                                go_ret
                                exact ⟨by first | rfl | (simp [errW_none, errW_some] <;> rfl) | (simp [*, errW_none, errW_some] <;> rfl), by repeat (first | (with_reducible first | exact HB.out | apply below_alloc | apply pw_below_drewN | apply below_drew1 | refine below_set ?_ GE140.out) | exact HB.out)⟩
                            · rw [if_neg c71] at H
                              have c71b0 : (t137 == (wrap64 ((a1.size : Int) + ((rdOf ByteArray.empty y121 x10_3).size : Int)))) = false := beq_eq_false_iff_ne.mpr c71
                              (have c71b0x : (t137 == ((a1.size : Int) + ((rdOf ByteArray.empty y121 x10_3).size : Int))) = false := by (have h_ := c71b0; rw [Go.Proofs.YtdndcigppbhhdaaDoorAM.w64 (by omega) (by omega)] at h_; exact h_))
                              have c71b1 : (t137 != (wrap64 ((a1.size : Int) + ((rdOf ByteArray.empty y121 x10_3).size : Int)))) = true := bne_iff_ne.mpr c71
                              (have c71b1x : (t137 != ((a1.size : Int) + ((rdOf ByteArray.empty y121 x10_3).size : Int))) = true := by (have h_ := c71b1; rw [Go.Proofs.YtdndcigppbhhdaaDoorAM.w64 (by omega) (by omega)] at h_; exact h_))
                              obtain rfl := Option.some.inj H
                              obtain ⟨Ao87, co87, eo87⟩ := Kd.R_slice HO_9.out
                              subst eo87
                              have p124 : 0 ≤ (x10_3 : Int) := of_decide_eq_true (by first | (with_reducible assumption) | assumption)
                              have q124 : x10_3 < (y121.length : Int) := of_decide_eq_true (by first | (with_reducible assumption) | assumption)
                              obtain ⟨ad124, e124, hx124_0⟩ := Kd.at_string (Kd.R_reads' HO_9.out).2.2 x10_3 p124 q124
                              cases e124
                              replace p124 := eq_true p124
                              replace q124 := eq_true q124
                              go_wp2_with (first | ((with_reducible refine gate_dst (N := 85) rfl ?_); refine Kd.R_lit (Kd.int .u8) _ 5 ?hg (N := 85) ?hd (xs := ([a2] : List Int)) (inner := [.int .u8 a2]) (ok := fun _ => True) (okp := fun _ => True) ?hr ?hp (fun _ hk => hk) trivial (Below.refl _ _) (Nat.le_refl _) (by simp) ?_; (case hd => rfl); (case hg => rfl); (case hr => first | (go_simp; done) | (go_simp; rfl)); (case hp => exact (Reps.one (show Kd.M (Kd.int .u8) _ _ _ a2 [.int .u8 a2] from rfl) (Reps.none _ _))); intro v134 w88 ho89 hb hg_ hnew_; clear hg_ hnew_; (first | rw [← Ny133.out] at ho89 | (simp only [Int.reduceToNat] at ho89; rw [← Ny133.out] at ho89)); have n0_ := Aside0.mk (Kd.R_below (by (with_reducible repeat (first | apply Kd.R_alloc | apply Kd.R_drewN | apply Kd.R_drew)); exact HO_9.out) hb); have n1_ := Aside0.mk (Kd.R_lower ho89 (below_size (by repeat (first | (with_reducible first | exact HB.out | apply below_alloc | apply pw_below_drewN | apply below_drew1) | exact HB.out)))); have n2_ := Aside0.mk (below_step (by repeat (first | (with_reducible first | exact HB.out | apply below_alloc | apply pw_below_drewN | apply below_drew1) | exact HB.out)) hb); clear HO_9; clear HB; have HO_9 := n0_; have HO135 := n1_; have HB := n2_; clear n0_ n1_ n2_; clear hb ho89; have hcv90 := own_string (P := Tryd.prog) Tryd.underlying46 Tryd.underlying5 Tryd.underlying9 (Kd.own_of_R HO135.out)) | ((with_reducible refine gate_callee (f := 31) rfl ?_); refine goesL_ (some 90) rfl rfl Tryd.func31 (by kernel_rfl) rfl #[.string ((a1 ++ (rdOf ByteArray.empty y121 x10_3)) ++ (strOfNums y133)), .int .i64 (a1.size : Int)] rfl (by (try simp only [List.map_toArray, List.map_cons, List.map_nil]); first | done | rfl | (simp only [List.length_drop, List.length_take]; rfl)) ?_; (with_reducible refine (literal_Scan.calls k3 ((a1 ++ (rdOf ByteArray.empty y121 x10_3)) ++ (strOfNums y133)) (a1.size : Int) t136 t137 t138 t139 _ A69.out).mono ?_); rintro e w91 ⟨rfl, hb⟩; refine ⟨_, rfl, ?_⟩; have n0_ := Aside0.mk (Kd.R_below (by (with_reducible repeat (first | apply Kd.R_alloc | apply Kd.R_drewN | apply Kd.R_drew)); exact HO_9.out) hb); have n1_ := Aside0.mk (Kd.R_below (by (with_reducible repeat (first | apply Kd.R_alloc | apply Kd.R_drewN | apply Kd.R_drew)); exact HO135.out) hb); have n2_ := Aside0.mk (below_step (by repeat (first | (with_reducible first | exact HB.out | apply below_alloc | apply pw_below_drewN | apply below_drew1) | exact HB.out)) hb); clear HO_9; clear HO135; clear HB; have HO_9 := n0_; have HO135 := n1_; have HB := n2_; clear n0_ n1_ n2_; (try clear hb); (try clear hb2); (try clear hk); (try clear hi)) | ((with_reducible refine gate_dst (N := 15) rfl ?_); refine box_event ?hg (N := 15) ?hd (cs := #[.int .i64 0, .int .i64 0]) (t := 43) ?hr ?_; (case hd => rfl); (case hg => rfl); (case hr => first | (go_simp; done) | (go_simp; rfl)); intro gb140 hg w92 hbox hb; have n0_ := Aside0.mk (Kd.R_below (by (with_reducible repeat (first | apply Kd.R_alloc | apply Kd.R_drewN | apply Kd.R_drew)); exact HO_9.out) hb); have n1_ := Aside0.mk (Kd.R_below (by (with_reducible repeat (first | apply Kd.R_alloc | apply Kd.R_drewN | apply Kd.R_drew)); exact HO135.out) hb); have n2_ := Aside0.mk (below_step (by repeat (first | (with_reducible first | exact HB.out | apply below_alloc | apply pw_below_drewN | apply below_drew1) | exact HB.out)) hb); have n3_ := Aside0.mk (hbox); have n4_ := Aside0.mk ((by rw [hg]; exact (below_size (by repeat (first | (with_reducible first | exact HB.out | apply below_alloc | apply pw_below_drewN | apply below_drew1) | exact HB.out))) : w.heap.size ≤ gb140)); have n5_ := Aside0.mk ((by rw [hg]; exact (below_size (by repeat (first | (with_reducible first | exact HB.out | apply below_alloc | apply pw_below_drewN | apply below_drew1) | exact HB.out))) : w.heap.size ≤ gb140)); clear HO_9; clear HO135; clear HB; have HO_9 := n0_; have HO135 := n1_; have HB := n2_; have BK140 := n3_; have GW140 := n4_; have GE140 := n5_; clear n0_ n1_ n2_ n3_ n4_ n5_; clear hb hbox hg; have hcz93_0 : w92.cell? ⟨gb140, 0, none⟩ = some (.int .i64 0) := (blk_cell BK140.out 0).trans rfl; have hcz93_1 : w92.cell? ⟨gb140, 1, none⟩ = some (.int .i64 0) := (blk_cell BK140.out 1).trans rfl; have hfz93_0 := blk_frozen BK140.out 0; have hfz93_1 := blk_frozen BK140.out 1))
                              go_ret
                              exact ⟨by first | rfl | (simp [errW_none, errW_some] <;> rfl) | (simp [*, errW_none, errW_some] <;> rfl), by repeat (first | (with_reducible first | exact HB.out | apply below_alloc | apply pw_below_drewN | apply below_drew1 | refine below_set ?_ GE140.out) | exact HB.out)⟩
                          · rw [if_neg c70] at H
                            have c70b0 : (t136 == a0) = false := beq_eq_false_iff_ne.mpr c70
                            have c70b1 : (t136 != a0) = true := bne_iff_ne.mpr c70
                            obtain rfl := Option.some.inj H
                            obtain ⟨Ao94, co94, eo94⟩ := Kd.R_slice HO_9.out
                            subst eo94
                            have p124 : 0 ≤ (x10_3 : Int) := of_decide_eq_true (by first | (with_reducible assumption) | assumption)
                            have q124 : x10_3 < (y121.length : Int) := of_decide_eq_true (by first | (with_reducible assumption) | assumption)
                            obtain ⟨ad124, e124, hx124_0⟩ := Kd.at_string (Kd.R_reads' HO_9.out).2.2 x10_3 p124 q124
                            cases e124
                            replace p124 := eq_true p124
                            replace q124 := eq_true q124
                            go_wp2_with (first | ((with_reducible refine gate_dst (N := 85) rfl ?_); refine Kd.R_lit (Kd.int .u8) _ 5 ?hg (N := 85) ?hd (xs := ([a2] : List Int)) (inner := [.int .u8 a2]) (ok := fun _ => True) (okp := fun _ => True) ?hr ?hp (fun _ hk => hk) trivial (Below.refl _ _) (Nat.le_refl _) (by simp) ?_; (case hd => rfl); (case hg => rfl); (case hr => first | (go_simp; done) | (go_simp; rfl)); (case hp => exact (Reps.one (show Kd.M (Kd.int .u8) _ _ _ a2 [.int .u8 a2] from rfl) (Reps.none _ _))); intro v134 w95 ho96 hb hg_ hnew_; clear hg_ hnew_; (first | rw [← Ny133.out] at ho96 | (simp only [Int.reduceToNat] at ho96; rw [← Ny133.out] at ho96)); have n0_ := Aside0.mk (Kd.R_below (by (with_reducible repeat (first | apply Kd.R_alloc | apply Kd.R_drewN | apply Kd.R_drew)); exact HO_9.out) hb); have n1_ := Aside0.mk (Kd.R_lower ho96 (below_size (by repeat (first | (with_reducible first | exact HB.out | apply below_alloc | apply pw_below_drewN | apply below_drew1) | exact HB.out)))); have n2_ := Aside0.mk (below_step (by repeat (first | (with_reducible first | exact HB.out | apply below_alloc | apply pw_below_drewN | apply below_drew1) | exact HB.out)) hb); clear HO_9; clear HB; have HO_9 := n0_; have HO135 := n1_; have HB := n2_; clear n0_ n1_ n2_; clear hb ho96; have hcv97 := own_string (P := Tryd.prog) Tryd.underlying46 Tryd.underlying5 Tryd.underlying9 (Kd.own_of_R HO135.out)) | ((with_reducible refine gate_callee (f := 31) rfl ?_); refine goesL_ (some 90) rfl rfl Tryd.func31 (by kernel_rfl) rfl #[.string ((a1 ++ (rdOf ByteArray.empty y121 x10_3)) ++ (strOfNums y133)), .int .i64 (a1.size : Int)] rfl (by (try simp only [List.map_toArray, List.map_cons, List.map_nil]); first | done | rfl | (simp only [List.length_drop, List.length_take]; rfl)) ?_; (with_reducible refine (literal_Scan.calls k3 ((a1 ++ (rdOf ByteArray.empty y121 x10_3)) ++ (strOfNums y133)) (a1.size : Int) t136 t137 t138 t139 _ A69.out).mono ?_); rintro e w98 ⟨rfl, hb⟩; refine ⟨_, rfl, ?_⟩; have n0_ := Aside0.mk (Kd.R_below (by (with_reducible repeat (first | apply Kd.R_alloc | apply Kd.R_drewN | apply Kd.R_drew)); exact HO_9.out) hb); have n1_ := Aside0.mk (Kd.R_below (by (with_reducible repeat (first | apply Kd.R_alloc | apply Kd.R_drewN | apply Kd.R_drew)); exact HO135.out) hb); have n2_ := Aside0.mk (below_step (by repeat (first | (with_reducible first | exact HB.out | apply below_alloc | apply pw_below_drewN | apply below_drew1) | exact HB.out)) hb); clear HO_9; clear HO135; clear HB; have HO_9 := n0_; have HO135 := n1_; have HB := n2_; clear n0_ n1_ n2_; (try clear hb); (try clear hb2); (try clear hk); (try clear hi)) | ((with_reducible refine gate_dst (N := 15) rfl ?_); refine box_event ?hg (N := 15) ?hd (cs := #[.int .i64 0, .int .i64 0]) (t := 43) ?hr ?_; (case hd => rfl); (case hg => rfl); (case hr => first | (go_simp; done) | (go_simp; rfl)); intro gb140 hg w99 hbox hb; have n0_ := Aside0.mk (Kd.R_below (by (with_reducible repeat (first | apply Kd.R_alloc | apply Kd.R_drewN | apply Kd.R_drew)); exact HO_9.out) hb); have n1_ := Aside0.mk (Kd.R_below (by (with_reducible repeat (first | apply Kd.R_alloc | apply Kd.R_drewN | apply Kd.R_drew)); exact HO135.out) hb); have n2_ := Aside0.mk (below_step (by repeat (first | (with_reducible first | exact HB.out | apply below_alloc | apply pw_below_drewN | apply below_drew1) | exact HB.out)) hb); have n3_ := Aside0.mk (hbox); have n4_ := Aside0.mk ((by rw [hg]; exact (below_size (by repeat (first | (with_reducible first | exact HB.out | apply below_alloc | apply pw_below_drewN | apply below_drew1) | exact HB.out))) : w.heap.size ≤ gb140)); have n5_ := Aside0.mk ((by rw [hg]; exact (below_size (by repeat (first | (with_reducible first | exact HB.out | apply below_alloc | apply pw_below_drewN | apply below_drew1) | exact HB.out))) : w.heap.size ≤ gb140)); clear HO_9; clear HO135; clear HB; have HO_9 := n0_; have HO135 := n1_; have HB := n2_; have BK140 := n3_; have GW140 := n4_; have GE140 := n5_; clear n0_ n1_ n2_ n3_ n4_ n5_; clear hb hbox hg; have hcz100_0 : w99.cell? ⟨gb140, 0, none⟩ = some (.int .i64 0) := (blk_cell BK140.out 0).trans rfl; have hcz100_1 : w99.cell? ⟨gb140, 1, none⟩ = some (.int .i64 0) := (blk_cell BK140.out 1).trans rfl; have hfz100_0 := blk_frozen BK140.out 0; have hfz100_1 := blk_frozen BK140.out 1))
                            go_ret
                            exact ⟨by first | rfl | (simp [errW_none, errW_some] <;> rfl) | (simp [*, errW_none, errW_some] <;> rfl), by repeat (first | (with_reducible first | exact HB.out | apply below_alloc | apply pw_below_drewN | apply below_drew1 | refine below_set ?_ GE140.out) | exact HB.out)⟩
                        · rw [if_neg c68] at H
                          exact absurd H (by simp)
                      · rw [if_neg c67] at H
                        exact absurd H (by simp)
                  · rw [if_neg c28] at H
                    exact absurd H (by simp)
                · rw [if_neg c27] at H
                  have c27b0 : decide (x10_3 < (y121.length : Int)) = false := decide_eq_false c27
                  clear c27
                  obtain rfl := Option.some.inj H
                  obtain ⟨Ao101, co101, eo101⟩ := Kd.R_slice HO_9.out
                  subst eo101
                  go_wp2
                  go_ret
                  exact ⟨by first | rfl | (simp [errW_none, errW_some] <;> rfl) | (simp [*, errW_none, errW_some] <;> rfl), by repeat (first | (with_reducible first | exact HB.out | apply below_alloc | apply pw_below_drewN | apply below_drew1) | exact HB.out)⟩

/-- THE ONE PURE STATEMENT of linotypelaw02_LiteralBack: yours. -/
def linotypelaw02_LiteralBack.Pure : Prop := ∀ (a0 : Int) (a1 : ByteArray) (a2 : Int), (Lit.int .i64 a0).wf = true → a1.size ≤ 140737488351232 → (Lit.int .u8 a2).wf = true → ∃ k, linotypelaw02_LiteralBack.f k a0 a1 a2 = some true
theorem linotypelaw02_LiteralBack.walk [Go.Proofs.YtdndcigppbhhdaaDoorAM.Glo] [Go.Proofs.YtdndcigppbhhdaaDoorAM.TabL] (P : linotypelaw02_LiteralBack.Pure) (a0 : Int) (a1 : ByteArray) (a2 : Int) (w : World) (hLow0 : Go.Proofs.YtdndcigppbhhdaaDoorAM.Low w) (w0 : (Lit.int .i64 a0).wf = true) (w1 : a1.size ≤ 140737488351232) (w2 : (Lit.int .u8 a2).wf = true) :
    Calls Tryd.prog 7 #[.int .i64 a0, .string a1, .int .u8 a2] w fun e w' => e = .returned (.bool true) ∧ Below w.heap.size w w' := by
  obtain ⟨k, h⟩ := P a0 a1 a2 w0 w1 w2
  refine (linotypelaw02_LiteralBack.calls k a0 a1 a2 true w hLow0 h).mono ?_
  rintro e w' ⟨rfl, hd⟩
  exact ⟨rfl, hd⟩

end Go.Proofs.YtdndcigppbhhdaaDoor.QLiteralBack
