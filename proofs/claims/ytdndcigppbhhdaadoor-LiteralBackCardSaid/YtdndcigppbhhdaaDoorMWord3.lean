/-
  word: what it reads of any text (its closure, its label and goto, Mul64 and Add64, walked).
-/
import Derived.Test.YtdndcigppbhhdaaDoorMWord2
namespace Go.Proofs.YtdndcigppbhhdaaDoorMWord
open Go.Proofs Go.RowKit Go.Proofs.YtdndcigppbhhdaaDoorW.PrintWords Go.Proofs.YtdndcigppbhhdaaDoorW.PrintMore
set_option linter.unusedVariables false
set_option linter.unusedSimpArgs false
/-- A number as an int64. -/
def toI (n : Nat) : Int := wrap64 (n : Int)
/-- What word's loop comes to: the number, the fault's kind and place. -/
def loopW (s : ByteArray) (base low high : Nat) (p : Int) : Nat → Nat → Nat → Bool → Int × Int × Int
  | 0, _, _, _ => (0, 0, 0)
  | f + 1, i, n, over =>
    if i = high then (if over then (0, 5, p) else (toI n, 0, 0))
    else if by_ s i = 95 then (if i = low ∨ i + 1 = high ∨ by_ s (i - 1) = 95 then (0, 4, p + i) else loopW s base low high p f (i + 1) n over)
    else if base ≤ valN (by_ s i) then (0, 4, p + i) else loopW s base low high p f (i + 1) ((n * base + valN (by_ s i)) % 18446744073709551616) (over || decide (18446744073709551616 ≤ n * base + valN (by_ s i)))
/-- What word comes to. -/
def wordW (s : ByteArray) (p : Int) : Int × Int × Int :=
  if (shp s).2.1 = (shp s).2.2 then (0, 4, p + (shp s).2.2) else loopW s (shp s).1 (shp s).2.1 (shp s).2.2 p ((shp s).2.2 + 1) (shp s).2.1 0 false
theorem shp_bd (s : ByteArray) (hs : 1 ≤ s.size) : ((shp s).1 = 2 ∨ (shp s).1 = 8 ∨ (shp s).1 = 10 ∨ (shp s).1 = 16) ∧ (shp s).2.1 ≤ (shp s).2.2 ∧ (shp s).2.2 ≤ s.size := by
  unfold shp
  have h : ∀ c, isB s c = true → 2 < s.size := fun c h => by
    unfold isB at h
    simp only [Bool.and_eq_true, decide_eq_true_eq] at h
    exact h.1
  split
  · rename_i h1
    have := h _ h1
    exact ⟨by simp, by show 2 ≤ s.size; omega, Nat.le_refl _⟩
  · split
    · exact ⟨by simp, by simp, by simp⟩
    · split
      · rename_i h1
        have := h _ h1
        exact ⟨by simp, by show 2 ≤ s.size; omega, Nat.le_refl _⟩
      · split
        · rename_i h1
          have := h _ h1
          exact ⟨by simp, by show 2 ≤ s.size; omega, Nat.le_refl _⟩
        · exact ⟨by simp, by simp, Nat.le_refl _⟩
theorem over1 {n base v hi lo sm cy : Nat} (h1 : n * base / 18446744073709551616 = hi) (h2 : n * base % 18446744073709551616 = lo) (h3 : (lo + v + 0) % 18446744073709551616 = sm) (h4 : (lo + v + 0) / 18446744073709551616 = cy) :
    (n * base + v) % 18446744073709551616 = sm ∧ decide (18446744073709551616 ≤ n * base + v) = (decide (0 < hi) || decide (0 < cy)) := by
  generalize n * base = m at *
  refine ⟨by omega, ?_⟩
  rw [← Bool.decide_or]
  exact decide_eq_decide.2 (by omega)
theorem loop_fuel (s : ByteArray) (p : Int) (base low high : Nat) : ∀ (f g i n : Nat) (over : Bool), high + 1 - i ≤ f → high + 1 - i ≤ g → i ≤ high → loopW s base low high p f i n over = loopW s base low high p g i n over
  | 0, _, i, _, _, h1, _, h3 => by omega
  | f + 1, 0, i, _, _, _, h2, h3 => by omega
  | f + 1, g + 1, i, n, over, h1, h2, h3 => by
    by_cases c : i = high
    · rw [loopW, loopW, if_pos c, if_pos c]
    · rw [loopW, loopW, if_neg c, if_neg c, loop_fuel s p base low high f g (i + 1) n over (by omega) (by omega) (by omega), loop_fuel s p base low high f g (i + 1) _ (over || decide (18446744073709551616 ≤ n * base + valN (by_ s i))) (by omega) (by omega) (by omega)]
/-- A scope whose run jumps back to one label: what holds there is walked once. -/
theorem wp_scope_both {P : Program} {a : Act} {w : World} {Q : Exit → Act → World → Prop} {c rest : Code} (l : Nat) (J : Act → World → Prop) (μ : Act → World → Nat) (hf : findLabel c l = some (.seq .skip rest))
    (pass : ∀ a w, J a w → rest.wp P (Exit.jump l (fun a' w' => J a' w' ∧ μ a' w' < μ a w) Q) a w)
    (first : Aside0 (∀ a w, J a w → rest.wp P (Exit.jump l J Q) a w) → c.wp P (Exit.jump l J Q) a w) : (Code.scope c).wp P Q a w :=
  wp_scope_jumps l J μ hf (first ⟨fun a w h => Code.wp_mono (fun e a' w' hq => by
    cases e with
    | goto l' => exact ⟨hq.1, hq.2.1⟩
    | _ => exact hq) (pass a w h)⟩) (fun a w h => wp_seq (wp_skip (pass a w h)))
/-- What holds at the label: the frame, written out. -/
inductive J51 (s : ByteArray) (p : Int) (base low high : Nat) (res : Int × Int × Int) (w0 : World) : Act → World → Prop where
  | mk (i n : Nat) (over : Bool) (u12 u13 u14 u15 u16 u17 u18 u19 u20 u21 u22 u23 u24 u25 u26 u27 u28 u29 u30 u31 u32 u33 u34 u35 u36 u37 u38 u39 u40 u41 u42 u43 u44 u45 u46 u47 u48 u49 u50 u51 u52 u53 u54 u55 u56 u57 u58 u59 u60 u61 u62 u63 u64 u65 u66 u67 u68 u69 u70 u71 u72 u73 u74 u75 u76 u77 u78 u79 u80 u81 u82 u83 u84 u85 u86 u87 u88 u89 u90 u91 u92 u93 u94 u95 u96 u97 u98 u99 u100 u101 u102 : Value) (wr : World) (h1 : low ≤ i) (h2 : i ≤ high) (h3 : n < 18446744073709551616) (h4 : loopW s base low high p (high + 1 - i) i n over = res) (h5 : wr.heap[w0.heap.size]? = some (.cells #[.int .i64 0, .int .i64 0] 43 (0, 0))) (h6 : Below w0.heap.size w0 wr) : J51 s p base low high res w0 { tmps := #[.string s, .int .i64 p, undef, undef, .int .i64 0, .pointer (some ⟨w0.heap.size, 0, none⟩), .int .i64 base, .int .i64 i, .int .i64 high, .int .i64 low, .bool over, .int .u64 n, u12, u13, u14, u15, u16, u17, u18, u19, u20, u21, u22, u23, u24, u25, u26, u27, u28, u29, u30, u31, u32, u33, u34, u35, u36, u37, u38, u39, u40, u41, u42, u43, u44, u45, u46, u47, u48, u49, u50, u51, u52, u53, u54, u55, u56, u57, u58, u59, u60, u61, u62, u63, u64, u65, u66, u67, u68, u69, u70, u71, u72, u73, u74, u75, u76, u77, u78, u79, u80, u81, u82, u83, u84, u85, u86, u87, u88, u89, u90, u91, u92, u93, u94, u95, u96, u97, u98, u99, u100, u101, u102], defers := [] } wr
def mu51 (high : Nat) (a : Act) (_ : World) : Nat := high + 1 - (intOf (a.tmps.getD 7 undef)).toNat
theorem mu51_lt {high : Nat} {a a' : Act} {w w' : World} {i j : Nat} (h1 : a.tmps.getD 7 undef = .int .i64 i) (h2 : a'.tmps.getD 7 undef = .int .i64 j) (h3 : i < j) (h4 : j ≤ high) : mu51 high a' w' < mu51 high a w := by
  unfold mu51
  rw [h1, h2]
  simp [intOf]
  omega
section
variable (s : ByteArray) (hs2 : s.size ≤ 140737488351232) (p : Int) (hp0 : 0 ≤ p) (hp1 : p ≤ 140737488351232) (base low high : Nat) (hb : base = 2 ∨ base = 8 ∨ base = 10 ∨ base = 16) (hlo : low ≤ high) (hhi : high ≤ s.size) (res : Int × Int × Int) (w0 : World)
include hs2 hp0 hp1 hb hlo hhi
set_option maxHeartbeats 1600000
set_option maxRecDepth 100000
theorem word1 (hlh : ¬ low = high) (hs : 1 ≤ s.size) (HSH : Aside0 (∀ W : World, Calls Tryd.prog 59 #[.string s] W fun e w' => e = .returned (.tuple #[.int .i64 base, .int .i64 low, .int .i64 high]) ∧ Below W.heap.size W w')) (hres : loopW s base low high p (high + 1 - low) low 0 false = res) :
    Calls Tryd.prog 51 #[.string s, .int .i64 p] w0 fun e w' => e = .returned (.tuple #[.int .i64 res.1, .agg #[.int .i64 res.2.1, .int .i64 res.2.2]]) ∧ Below w0.heap.size w0 w' := by
  have hu43 := Tryd.underlying43
  have c0 : ((low : Int) == (high : Int)) = false := beq_eq_false_iff_ne.2 (by omega)
  have HR := Aside0.mk hres
  have HLH := Aside0.mk hlh
  have HBS := Aside0.mk hb
  clear hres hlh hs hb
  go_enter Tryd.func51, Tryd.ntmps51
  go_wp2_with (first | ((with_reducible refine gate_dst (N := 5) rfl ?_); refine box_event ?hg (N := 5) ?hd (cs := #[.int .i64 0, .int .i64 0]) (t := 43) ?hr ?_; (case hd => rfl); (case hg => rfl); (case hr => first | (go_simp; done) | (go_simp; rfl)); intro g hg w1 hbox hbl; subst hg))
  refine wp_scope_both 0 (J51 s p base low high res w0) (mu51 high) rfl ?pass ?first
  case first =>
    intro HP
    go_wp2_with (go_at_call 59; (with_reducible refine (HSH.out _).mono ?_); rintro e w6 ⟨rfl, hb6⟩)
    go_step3
    rename_i hK
    refine hK _ _ (HP.out _ _ (.mk low 0 false _ _ _ _ _ _ _ _ _ _ _ _ _ _ _ _ _ _ _ _ _ _ _ _ _ _ _ _ _ _ _ _ _ _ _ _ _ _ _ _ _ _ _ _ _ _ _ _ _ _ _ _ _ _ _ _ _ _ _ _ _ _ _ _ _ _ _ _ _ _ _ _ _ _ _ _ _ _ _ _ _ _ _ _ _ _ _ _ _ _ _ _ (Nat.le_refl _) hlo (by decide) HR.out (blk_below hbox hb6) (below_step hbl hb6)))
  case pass =>
    intro a wr hJ
    cases hJ with
    | mk i n over u12 u13 u14 u15 u16 u17 u18 u19 u20 u21 u22 u23 u24 u25 u26 u27 u28 u29 u30 u31 u32 u33 u34 u35 u36 u37 u38 u39 u40 u41 u42 u43 u44 u45 u46 u47 u48 u49 u50 u51 u52 u53 u54 u55 u56 u57 u58 u59 u60 u61 u62 u63 u64 u65 u66 u67 u68 u69 u70 u71 u72 u73 u74 u75 u76 u77 u78 u79 u80 u81 u82 u83 u84 u85 u86 u87 u88 u89 u90 u91 u92 u93 u94 u95 u96 u97 u98 u99 u100 u101 u102 wr hi1 hi2 hn hl hg hB =>
    have HG := Aside0.mk hg
    have HB := Aside0.mk hB
    have HL := Aside0.mk hl
    clear hg hB hl hbox hbl c0
    have hcz0 : wr.cell? ⟨w0.heap.size, 0, none⟩ = some (.int .i64 0) := (blk_cell HG.out 0).trans rfl
    have hcz1 : wr.cell? ⟨w0.heap.size, 1, none⟩ = some (.int .i64 0) := (blk_cell HG.out 1).trans rfl
    have hfz0 := blk_frozen HG.out 0
    have hfz1 := blk_frozen HG.out 1
    by_cases hih : i = high
    · have c1 : ((i : Int) == (high : Int)) = true := beq_iff_eq.2 (by omega)
      cases over with
      | true =>
        have hr : res = (0, 5, p) := by
          have := HL.out
          rw [show high + 1 - i = 0 + 1 by omega, loopW, if_pos hih, if_pos rfl] at this
          exact this.symm
        subst hr
        clear HL hih
        go_wp2
        simp only [Exit.jump]
        refine bodyPost_ret (results_list (rs := [.tmp 4, .cell 5 43]) rfl (by simp) (.tmp (.cell w0.heap.size 43 #[.int .i64 5, .int .i64 p] (0, 0) _ rfl (by (with_reducible repeat (first | refine blk_drewN ?_ _ | refine blk_drew ?_ | refine blk_alloc ?_ _)); refine blk_put (cs := #[.int .i64 5, .int .i64 0]) ?_ 1 _ rfl; (with_reducible repeat (first | refine blk_drewN ?_ _ | refine blk_drew ?_ | refine blk_alloc ?_ _)); refine blk_put (cs := #[.int .i64 0, .int .i64 0]) ?_ 0 _ rfl; (with_reducible repeat (first | refine blk_drewN ?_ _ | refine blk_drew ?_ | refine blk_alloc ?_ _)); exact HG.out) Tryd.underlying43 rfl (by kernel_rfl) .nil))) rfl ?_
        exact ⟨rfl, (by repeat (first | (with_reducible first | exact HB.out | apply below_alloc | apply pw_below_drewN | apply below_drew1 | refine below_set ?_ (Nat.le_refl _)) | exact HB.out))⟩
      | false =>
        have hr : res = (toI n, 0, 0) := by
          have := HL.out
          rw [show high + 1 - i = 0 + 1 by omega, loopW, if_pos hih, if_neg (by decide)] at this
          exact this.symm
        subst hr
        clear HL hih
        go_wp2
        simp only [Exit.jump]
        refine bodyPost_ret (results_list (rs := [.tmp 4, .cell 5 43]) rfl (by simp) (.tmp (.cell w0.heap.size 43 #[.int .i64 0, .int .i64 0] (0, 0) _ rfl (by (with_reducible repeat (first | refine blk_drewN ?_ _ | refine blk_drew ?_ | refine blk_alloc ?_ _)); refine blk_put (cs := #[.int .i64 0, .int .i64 0]) ?_ 1 _ rfl; (with_reducible repeat (first | refine blk_drewN ?_ _ | refine blk_drew ?_ | refine blk_alloc ?_ _)); refine blk_put (cs := #[.int .i64 0, .int .i64 0]) ?_ 0 _ rfl; (with_reducible repeat (first | refine blk_drewN ?_ _ | refine blk_drew ?_ | refine blk_alloc ?_ _)); exact HG.out) Tryd.underlying43 rfl (by kernel_rfl) .nil))) rfl ?_
        exact ⟨rfl, (by repeat (first | (with_reducible first | exact HB.out | apply below_alloc | apply pw_below_drewN | apply below_drew1 | refine below_set ?_ (Nat.le_refl _)) | exact HB.out))⟩
    · have c1 : ((i : Int) == (high : Int)) = false := beq_eq_false_iff_ne.2 (by omega)
      obtain ⟨f, hf⟩ : ∃ f, high + 1 - i = f + 1 := ⟨high - i, by omega⟩
      have hf' : high + 1 - (i + 1) = f := by omega
      have hl := HL.out
      rw [hf, loopW, if_neg hih] at hl
      have HF := Aside0.mk hf'
      have HIH := Aside0.mk hih
      clear HL hf hf' hih
      have q1 := eq_true (show (i : Int) < (s.size : Int) by have := HIH.out; omega)
      have hbi := by_at s i
      have hbl := by_lt s i
      have HBI := Aside0.mk (fun (h : 1 ≤ i) => by_at s (i - 1))
      have hlast : by_ s (i - 1) < 256 := by_lt s (i - 1)
      have HV := Aside0.mk (fun W => value (by_ s i) hbl W)
      have HVL := Aside0.mk (rfl : valN (by_ s i) = valN (by_ s i))
      generalize hvv : valN (by_ s i) = v at *
      generalize by_ s i = b at *
      generalize by_ s (i - 1) = b' at *
      clear hvv HVL
      by_cases hu : b = 95
      · have c2 : ((b : Int) == 95) = true := beq_iff_eq.2 (by omega)
        rw [if_pos hu] at hl
        clear hu
        have p0 := eq_true (show (i : Int) - 1 < (s.size : Int) by have := HIH.out; omega)
        have back : i + 1 ≤ high := by have := HIH.out; omega
        by_cases uA : i = low
        · have d1 : ((i : Int) == (low : Int)) = true := beq_iff_eq.2 (by omega)
          have d1' : (i == low) = true := beq_iff_eq.2 uA
          rw [if_pos (.inl uA)] at hl
          obtain rfl := hl
          clear uA
          go_wp2
          simp only [Exit.jump]
          refine bodyPost_ret (results_list (rs := [.tmp 4, .cell 5 43]) rfl (by simp) (.tmp (.cell w0.heap.size 43 #[.int .i64 4, .int .i64 (p + i)] (0, 0) _ rfl (by (with_reducible repeat (first | refine blk_drewN ?_ _ | refine blk_drew ?_ | refine blk_alloc ?_ _)); refine blk_put (cs := #[.int .i64 4, .int .i64 0]) ?_ 1 _ rfl; (with_reducible repeat (first | refine blk_drewN ?_ _ | refine blk_drew ?_ | refine blk_alloc ?_ _)); refine blk_put (cs := #[.int .i64 0, .int .i64 0]) ?_ 0 _ rfl; (with_reducible repeat (first | refine blk_drewN ?_ _ | refine blk_drew ?_ | refine blk_alloc ?_ _)); exact HG.out) Tryd.underlying43 rfl (by kernel_rfl) .nil))) rfl ?_
          exact ⟨rfl, (by repeat (first | (with_reducible first | exact HB.out | apply below_alloc | apply pw_below_drewN | apply below_drew1 | refine below_set ?_ (Nat.le_refl _)) | exact HB.out))⟩
        · have d1 : ((i : Int) == (low : Int)) = false := beq_eq_false_iff_ne.2 (by omega)
          have d1' : (i == low) = false := beq_eq_false_iff_ne.2 uA
          by_cases uB : i + 1 = high
          · have d2 : ((i : Int) + 1 == (high : Int)) = true := beq_iff_eq.2 (by omega)
            have d2' : (i + 1 == high) = true := beq_iff_eq.2 uB
            rw [if_pos (.inr (.inl uB))] at hl
            obtain rfl := hl
            have UA := Aside0.mk uA
            clear uA uB
            go_wp2
            simp only [Exit.jump]
            refine bodyPost_ret (results_list (rs := [.tmp 4, .cell 5 43]) rfl (by simp) (.tmp (.cell w0.heap.size 43 #[.int .i64 4, .int .i64 (p + i)] (0, 0) _ rfl (by (with_reducible repeat (first | refine blk_drewN ?_ _ | refine blk_drew ?_ | refine blk_alloc ?_ _)); refine blk_put (cs := #[.int .i64 4, .int .i64 0]) ?_ 1 _ rfl; (with_reducible repeat (first | refine blk_drewN ?_ _ | refine blk_drew ?_ | refine blk_alloc ?_ _)); refine blk_put (cs := #[.int .i64 0, .int .i64 0]) ?_ 0 _ rfl; (with_reducible repeat (first | refine blk_drewN ?_ _ | refine blk_drew ?_ | refine blk_alloc ?_ _)); exact HG.out) Tryd.underlying43 rfl (by kernel_rfl) .nil))) rfl ?_
            exact ⟨rfl, (by repeat (first | (with_reducible first | exact HB.out | apply below_alloc | apply pw_below_drewN | apply below_drew1 | refine below_set ?_ (Nat.le_refl _)) | exact HB.out))⟩
          · have d2 : ((i : Int) + 1 == (high : Int)) = false := beq_eq_false_iff_ne.2 (by omega)
            have d2' : (i + 1 == high) = false := beq_eq_false_iff_ne.2 uB
            have q3 := eq_true (show (0 : Int) ≤ (i : Int) - 1 by omega)
            have q9 := eq_false (show ¬ (i : Int) < 1 by omega)
            have q4 := eq_true (show (1 : Int) ≤ (i : Int) by omega)
            have q5 := eq_true (show 1 ≤ i by omega)
            have q6 := eq_true (show 0 < i by omega)
            have q7 := eq_true (show i - 1 < s.size by omega)
            have q8 := eq_true (show (0 : Int) < (i : Int) by omega)
            have hbp := HBI.out (by omega)
            by_cases uC : b' = 95
            · have d3 : ((b' : Int) == 95) = true := beq_iff_eq.2 (by omega)
              rw [if_pos (.inr (.inr uC))] at hl
              obtain rfl := hl
              have UA := Aside0.mk uA
              clear uA uB uC
              go_wp2
              simp only [Exit.jump]
              refine bodyPost_ret (results_list (rs := [.tmp 4, .cell 5 43]) rfl (by simp) (.tmp (.cell w0.heap.size 43 #[.int .i64 4, .int .i64 (p + i)] (0, 0) _ rfl (by (with_reducible repeat (first | refine blk_drewN ?_ _ | refine blk_drew ?_ | refine blk_alloc ?_ _)); refine blk_put (cs := #[.int .i64 4, .int .i64 0]) ?_ 1 _ rfl; (with_reducible repeat (first | refine blk_drewN ?_ _ | refine blk_drew ?_ | refine blk_alloc ?_ _)); refine blk_put (cs := #[.int .i64 0, .int .i64 0]) ?_ 0 _ rfl; (with_reducible repeat (first | refine blk_drewN ?_ _ | refine blk_drew ?_ | refine blk_alloc ?_ _)); exact HG.out) Tryd.underlying43 rfl (by kernel_rfl) .nil))) rfl ?_
              exact ⟨rfl, (by repeat (first | (with_reducible first | exact HB.out | apply below_alloc | apply pw_below_drewN | apply below_drew1 | refine below_set ?_ (Nat.le_refl _)) | exact HB.out))⟩
            · have d3 : ((b' : Int) == 95) = false := beq_eq_false_iff_ne.2 (by omega)
              rw [if_neg (by rintro (h | h | h) <;> contradiction)] at hl
              have HL := Aside0.mk hl
              have UA := Aside0.mk uA
              clear uA uB uC hl
              go_wp2
              go_step3
              have e : (i : Int) + 1 = ((i + 1 : Nat) : Int) := by omega
              rw [e]
              exact ⟨rfl, .mk (i + 1) n over _ _ _ _ _ _ _ _ _ _ _ _ _ _ _ _ _ _ _ _ _ _ _ _ _ _ _ _ _ _ _ _ _ _ _ _ _ _ _ _ _ _ _ _ _ _ _ _ _ _ _ _ _ _ _ _ _ _ _ _ _ _ _ _ _ _ _ _ _ _ _ _ _ _ _ _ _ _ _ _ _ _ _ _ _ _ _ _ _ _ _ _ (by omega) (by omega) hn (by rw [HF.out]; exact HL.out) HG.out HB.out, mu51_lt rfl rfl (by omega) (by omega)⟩
      · have c2 : ((b : Int) == 95) = false := beq_eq_false_iff_ne.2 (by omega)
        rw [if_neg hu] at hl
        clear hu
        by_cases hv : base ≤ v
        · have c3 : decide ((base : Int) ≤ (v : Int)) = true := decide_eq_true (by omega)
          have c3' : decide (base ≤ v) = true := decide_eq_true hv
          rw [if_pos hv] at hl
          obtain rfl := hl
          clear hv
          go_wp2_with (go_at_call 60; (with_reducible refine (HV.out _).mono ?_); rintro e w6 ⟨rfl, rfl⟩)
          simp only [Exit.jump]
          refine bodyPost_ret (results_list (rs := [.tmp 4, .cell 5 43]) rfl (by simp) (.tmp (.cell w0.heap.size 43 #[.int .i64 4, .int .i64 (p + i)] (0, 0) _ rfl (by (with_reducible repeat (first | refine blk_drewN ?_ _ | refine blk_drew ?_ | refine blk_alloc ?_ _)); refine blk_put (cs := #[.int .i64 4, .int .i64 0]) ?_ 1 _ rfl; (with_reducible repeat (first | refine blk_drewN ?_ _ | refine blk_drew ?_ | refine blk_alloc ?_ _)); refine blk_put (cs := #[.int .i64 0, .int .i64 0]) ?_ 0 _ rfl; (with_reducible repeat (first | refine blk_drewN ?_ _ | refine blk_drew ?_ | refine blk_alloc ?_ _)); exact HG.out) Tryd.underlying43 rfl (by kernel_rfl) .nil))) rfl ?_
          exact ⟨rfl, (by repeat (first | (with_reducible first | exact HB.out | apply below_alloc | apply pw_below_drewN | apply below_drew1 | refine below_set ?_ (Nat.le_refl _)) | exact HB.out))⟩
        · have c3 : decide ((base : Int) ≤ (v : Int)) = false := decide_eq_false (by omega)
          have c3' : decide (base ≤ v) = false := decide_eq_false hv
          rw [if_neg hv] at hl
          have hwb : IntKind.u64.wrap (base : Int) = (base : Int) := by have := HBS.out; rw [IntKind.wrap_u64]; omega
          have hwv : IntKind.u64.wrap (v : Int) = (v : Int) := by have := HBS.out; rw [IntKind.wrap_u64]; omega
          have back : i + 1 ≤ high := by have := HIH.out; omega
          have HM := Aside0.mk (fun W => mul64 n hn base HBS.out W)
          have HI := Aside0.mk (rfl : n * base / 18446744073709551616 = n * base / 18446744073709551616)
          obtain ⟨hi, hhi'⟩ : ∃ h, n * base / 18446744073709551616 = h := ⟨_, rfl⟩
          obtain ⟨lo, hlo'⟩ : ∃ h, n * base % 18446744073709551616 = h := ⟨_, rfl⟩
          rw [hhi', hlo'] at HM
          have hadd := fun W => Go.Proofs.YtdndcigppbhhdaaDoorMI.add64 lo v 0 (by decide) W
          obtain ⟨sm, hsm⟩ : ∃ h, (lo + v + 0) % 18446744073709551616 = h := ⟨_, rfl⟩
          obtain ⟨cy, hcy⟩ : ∃ h, (lo + v + 0) / 18446744073709551616 = h := ⟨_, rfl⟩
          rw [hsm, hcy] at hadd
          have hadd : ∀ W, (callFunc 62 #[.int .u64 (lo : Int), .int .u64 (v : Int), .int .u64 0]).run Tryd.prog W = .ok (.value (.tuple #[.int .u64 (sm : Int), .int .u64 (cy : Int)])) W := hadd
          have hvb : v < base := by omega
          have hsm1 : sm < 18446744073709551616 := by omega
          have E1 := Aside0.mk (over1 hhi' hlo' hsm hcy)
          clear HI hhi' hlo' hsm hcy hv
          have HBV := Aside0.mk hvb
          clear hvb
          rw [E1.out.1] at hl
          have hd := E1.out.2
          rw [hd] at hl
          have HL := Aside0.mk hl
          clear hl hd
          cases over with
          | true =>
            have HL := Aside0.mk (by simpa using HL.out : loopW s base low high p f (i + 1) sm true = res)
            go_wp2_with (first | (go_at_call 60; (with_reducible refine (HV.out _).mono ?_); rintro e w6 ⟨rfl, rfl⟩) | (go_at_call 61; (with_reducible refine (HM.out _).mono ?_); rintro e w7 ⟨rfl, rfl⟩))
            go_step3
            have e : (i : Int) + 1 = ((i + 1 : Nat) : Int) := by omega
            rw [e]
            exact ⟨rfl, .mk (i + 1) sm true _ _ _ _ _ _ _ _ _ _ _ _ _ _ _ _ _ _ _ _ _ _ _ _ _ _ _ _ _ _ _ _ _ _ _ _ _ _ _ _ _ _ _ _ _ _ _ _ _ _ _ _ _ _ _ _ _ _ _ _ _ _ _ _ _ _ _ _ _ _ _ _ _ _ _ _ _ _ _ _ _ _ _ _ _ _ _ _ _ _ _ _ (by omega) (by omega) hsm1 (by rw [HF.out]; exact HL.out) HG.out HB.out, mu51_lt rfl rfl (by omega) (by omega)⟩
          | false =>
            by_cases k1 : 0 < hi
            · have g1 : decide ((0 : Int) < (hi : Int)) = true := decide_eq_true (by omega)
              have g1' : decide (0 < hi) = true := decide_eq_true k1
              have HL := Aside0.mk (by simpa [k1] using HL.out : loopW s base low high p f (i + 1) sm true = res)
              clear k1
              go_wp2_with (first | (go_at_call 60; (with_reducible refine (HV.out _).mono ?_); rintro e w6 ⟨rfl, rfl⟩) | (go_at_call 61; (with_reducible refine (HM.out _).mono ?_); rintro e w7 ⟨rfl, rfl⟩))
              go_step3
              have e : (i : Int) + 1 = ((i + 1 : Nat) : Int) := by omega
              rw [e]
              exact ⟨rfl, .mk (i + 1) sm true _ _ _ _ _ _ _ _ _ _ _ _ _ _ _ _ _ _ _ _ _ _ _ _ _ _ _ _ _ _ _ _ _ _ _ _ _ _ _ _ _ _ _ _ _ _ _ _ _ _ _ _ _ _ _ _ _ _ _ _ _ _ _ _ _ _ _ _ _ _ _ _ _ _ _ _ _ _ _ _ _ _ _ _ _ _ _ _ _ _ _ _ (by omega) (by omega) hsm1 (by rw [HF.out]; exact HL.out) HG.out HB.out, mu51_lt rfl rfl (by omega) (by omega)⟩
            · have g1 : decide ((0 : Int) < (hi : Int)) = false := decide_eq_false (by omega)
              have g1' : decide (0 < hi) = false := decide_eq_false k1
              by_cases k2 : 0 < cy
              · have g2 : decide ((0 : Int) < (cy : Int)) = true := decide_eq_true (by omega)
                have g2' : decide (0 < cy) = true := decide_eq_true k2
                have HL := Aside0.mk (by simpa [k1, k2] using HL.out : loopW s base low high p f (i + 1) sm true = res)
                clear k1 k2
                go_wp2_with (first | (go_at_call 60; (with_reducible refine (HV.out _).mono ?_); rintro e w6 ⟨rfl, rfl⟩) | (go_at_call 61; (with_reducible refine (HM.out _).mono ?_); rintro e w7 ⟨rfl, rfl⟩))
                go_step3
                have e : (i : Int) + 1 = ((i + 1 : Nat) : Int) := by omega
                rw [e]
                exact ⟨rfl, .mk (i + 1) sm true _ _ _ _ _ _ _ _ _ _ _ _ _ _ _ _ _ _ _ _ _ _ _ _ _ _ _ _ _ _ _ _ _ _ _ _ _ _ _ _ _ _ _ _ _ _ _ _ _ _ _ _ _ _ _ _ _ _ _ _ _ _ _ _ _ _ _ _ _ _ _ _ _ _ _ _ _ _ _ _ _ _ _ _ _ _ _ _ _ _ _ _ (by omega) (by omega) hsm1 (by rw [HF.out]; exact HL.out) HG.out HB.out, mu51_lt rfl rfl (by omega) (by omega)⟩
              · have g2 : decide ((0 : Int) < (cy : Int)) = false := decide_eq_false (by omega)
                have g2' : decide (0 < cy) = false := decide_eq_false k2
                have HL := Aside0.mk (by simpa [k1, k2] using HL.out : loopW s base low high p f (i + 1) sm false = res)
                clear k1 k2
                go_wp2_with (first | (go_at_call 60; (with_reducible refine (HV.out _).mono ?_); rintro e w6 ⟨rfl, rfl⟩) | (go_at_call 61; (with_reducible refine (HM.out _).mono ?_); rintro e w7 ⟨rfl, rfl⟩))
                go_step3
                have e : (i : Int) + 1 = ((i + 1 : Nat) : Int) := by omega
                rw [e]
                exact ⟨rfl, .mk (i + 1) sm false _ _ _ _ _ _ _ _ _ _ _ _ _ _ _ _ _ _ _ _ _ _ _ _ _ _ _ _ _ _ _ _ _ _ _ _ _ _ _ _ _ _ _ _ _ _ _ _ _ _ _ _ _ _ _ _ _ _ _ _ _ _ _ _ _ _ _ _ _ _ _ _ _ _ _ _ _ _ _ _ _ _ _ _ _ _ _ _ _ _ _ _ (by omega) (by omega) hsm1 (by rw [HF.out]; exact HL.out) HG.out HB.out, mu51_lt rfl rfl (by omega) (by omega)⟩
end
set_option maxHeartbeats 1600000 in
set_option maxRecDepth 100000 in
theorem word0 (s : ByteArray) (p : Int) (hp0 : 0 ≤ p) (hp1 : p ≤ 140737488351232) (base low high : Nat) (hhi : high ≤ s.size) (hs2 : s.size ≤ 140737488351232) (res : Int × Int × Int) (w0 : World) (hlh : low = high) (HSH : Aside0 (∀ W : World, Calls Tryd.prog 59 #[.string s] W fun e w' => e = .returned (.tuple #[.int .i64 base, .int .i64 low, .int .i64 high]) ∧ Below W.heap.size W w')) (hres : (0, 4, p + high) = res) :
    Calls Tryd.prog 51 #[.string s, .int .i64 p] w0 fun e w' => e = .returned (.tuple #[.int .i64 res.1, .agg #[.int .i64 res.2.1, .int .i64 res.2.2]]) ∧ Below w0.heap.size w0 w' := by
  subst hres
  have hu43 := Tryd.underlying43
  have c0 : ((low : Int) == (high : Int)) = true := beq_iff_eq.2 (by omega)
  have c0' : (low == high) = true := beq_iff_eq.2 hlh
  clear hlh
  go_enter Tryd.func51, Tryd.ntmps51
  go_wp2_with (first | ((with_reducible refine gate_dst (N := 5) rfl ?_); refine box_event ?hg (N := 5) ?hd (cs := #[.int .i64 0, .int .i64 0]) (t := 43) ?hr ?_; (case hd => rfl); (case hg => rfl); (case hr => first | (go_simp; done) | (go_simp; rfl)); intro g hg w1 hbox hbl; subst hg))
  go_step3
  go_wp2_with fail
  refine (HSH.out _).mono ?_
  rintro e wr ⟨rfl, hb6⟩
  have HB := Aside0.mk (below_step hbl hb6)
  have HG := Aside0.mk (blk_below hbox hb6)
  clear hbox hbl hb6
  have hcz0 : wr.cell? ⟨w0.heap.size, 0, none⟩ = some (.int .i64 0) := (blk_cell HG.out 0).trans rfl
  have hcz1 : wr.cell? ⟨w0.heap.size, 1, none⟩ = some (.int .i64 0) := (blk_cell HG.out 1).trans rfl
  have hfz0 := blk_frozen HG.out 0
  have hfz1 := blk_frozen HG.out 1
  go_wp2
  rw [Exit.noGoto_ret]
  refine bodyPost_ret (results_list (rs := [.tmp 4, .cell 5 43]) rfl (by simp) (.tmp (.cell w0.heap.size 43 #[.int .i64 4, .int .i64 (p + high)] (0, 0) _ rfl (by (with_reducible repeat (first | refine blk_drewN ?_ _ | refine blk_drew ?_ | refine blk_alloc ?_ _)); refine blk_put (cs := #[.int .i64 4, .int .i64 0]) ?_ 1 _ rfl; (with_reducible repeat (first | refine blk_drewN ?_ _ | refine blk_drew ?_ | refine blk_alloc ?_ _)); refine blk_put (cs := #[.int .i64 0, .int .i64 0]) ?_ 0 _ rfl; (with_reducible repeat (first | refine blk_drewN ?_ _ | refine blk_drew ?_ | refine blk_alloc ?_ _)); exact HG.out) Tryd.underlying43 rfl (by kernel_rfl) .nil))) rfl ?_
  exact ⟨rfl, (by repeat (first | (with_reducible first | exact HB.out | apply below_alloc | apply pw_below_drewN | apply below_drew1 | refine below_set ?_ (Nat.le_refl _)) | exact HB.out))⟩
/-- Where word's contract speaks. -/
def InW (s : ByteArray) (p : Int) : Prop := 1 ≤ s.size ∧ s.size ≤ 140737488351232 ∧ 0 ≤ p ∧ p ≤ 140737488351232
instance (s : ByteArray) (p : Int) : Decidable (InW s p) := inferInstanceAs (Decidable (_ ∧ _))
/-- word, at any text of at least one byte. -/
theorem word (s : ByteArray) (hs : 1 ≤ s.size) (hs2 : s.size ≤ 140737488351232) (p : Int) (hp0 : 0 ≤ p) (hp1 : p ≤ 140737488351232) (w : World) : Calls Tryd.prog 51 #[.string s, .int .i64 p] w fun e w' => e = .returned (.tuple #[.int .i64 (wordW s p).1, .agg #[.int .i64 (wordW s p).2.1, .int .i64 (wordW s p).2.2]]) ∧ Below w.heap.size w w' := by
  obtain ⟨hb, hlo, hhi⟩ := shp_bd s hs
  have HSH := Aside0.mk (fun W => shape s hs hs2 W)
  by_cases hlh : (shp s).2.1 = (shp s).2.2
  · exact word0 s p hp0 hp1 _ _ _ hhi hs2 _ w hlh HSH (by unfold wordW; rw [if_pos hlh])
  · refine word1 s hs2 p hp0 hp1 _ _ _ hb hlo hhi _ w hlh hs HSH ?_
    unfold wordW
    rw [if_neg hlh]
    exact loop_fuel s p (shp s).1 (shp s).2.1 (shp s).2.2 _ _ _ _ _ (by omega) (by omega) (by omega)
end Go.Proofs.YtdndcigppbhhdaaDoorMWord
