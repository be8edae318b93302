/- The law RegApart: the table holds; the pieces; the cases. Written by a program of this claim's. -/
import Derived.Test.YtdndcigppbhhdaaDoorLRegApt22
import Derived.Test.YtdndcigppbhhdaaDoorLRegApt14
import Derived.Test.YtdndcigppbhhdaaDoorLRegApt17
import Derived.Test.YtdndcigppbhhdaaDoorLRegApt18
import Derived.Test.YtdndcigppbhhdaaDoorLRegApt24
namespace Go.Proofs.YtdndcigppbhhdaaDoorAL.LReg.LRegAp
open Go.Proofs Go.Proofs.YtdndcigppbhhdaaDoorAL Go.Proofs.YtdndcigppbhhdaaDoorAL.LReg
set_option maxRecDepth 100000
theorem symAll : (symL.all fun p => p.1.plain && p.2.plain && pureRun (.bool false) (call0 22 [.agg [p.1, p.2]] .e 0)) = true := by kernel_rfl
noncomputable def S16 : Sm := ⟨.bool true, [], 212⟩
theorem look2_lt {t : List (List (Option AV))} (h1 : Nat.ble t.length 9 = true) (h2 : (t.all fun r => Nat.ble r.length 16) = true) {c n : Nat} {v : AV} (h : look2 t c n = some v) : c < 9 ∧ n < 16 := by
  unfold look2 at h
  split at h
  · rename_i r hr
    rw [getF_eq] at hr
    split at h
    · rename_i o ho
      rw [getF_eq] at ho
      have g1 := (List.getElem?_eq_some_iff.1 hr).1
      have g2 := (List.getElem?_eq_some_iff.1 ho).1
      have g3 := Nat.ble_eq.mp (List.all_eq_true.1 h2 r (List.mem_of_getElem? hr))
      have g4 := Nat.ble_eq.mp h1
      exact ⟨by omega, by omega⟩
    · cases h
  · cases h
theorem look2_nil (c n : Nat) : look2 [] c n = none := by
  unfold look2
  rw [getF_eq]
  rfl
theorem inSym_mem {x y : AV} : ∀ {l : List (AV × AV)}, inSym x y l = true → (x, y) ∈ l
  | [], h => by simp [inSym] at h
  | p :: l, h => by
    simp only [inSym, Bool.or_eq_true, Bool.and_eq_true] at h
    rcases h with h | h
    · obtain ⟨h1, h2⟩ := h
      have e1 := AV.same1_eq h1
      have e2 := AV.same1_eq h2
      subst e1 e2
      simp
    · simp [inSym_mem h]
section
variable [Glo] [Tab]
theorem call0OK : CallOK Tryd.prog call0 := callF_ok (ms := []) trivial (smL_ok (l := []) trivial) envOK mixed 3000 60
theorem s16 : SmOK Tryd.prog 16 S16 := sm_ok call0OK (by kernel_rfl)
theorem entry_ok {f : Nat} {t : List (List (Option AV))} (he : entries f t = true) (h1 : Nat.ble t.length 9 = true) (h2 : (t.all fun r => Nat.ble r.length 16) = true) {c n : Nat} {v : AV} (h : look2 t c n = some v) : PureOK Tryd.prog f [.agg [.int .i64 (.ofNat c), .int .i64 (.ofNat n)]] v := by
  obtain ⟨g1, g2⟩ := look2_lt h1 h2 h
  have h3 := all1_ok (all1_ok (f := fun c => all1 (fun n => entry f t c n) 0 16) he c (Nat.zero_le c) (by omega)) n (Nat.zero_le n) (by omega)
  unfold entry at h3
  rw [h] at h3
  exact pure_of call0OK h3
theorem tbl_ok : ∀ f args v, tbl f args = some v → PureOK Tryd.prog f args v ∧ args.all AV.plain2 = true := by
  intro f args v h
  unfold tbl at h
  split at h
  · rename_i c n
    refine ⟨?_, rfl⟩
    unfold tab at h
    split at h
    · rename_i hf
      have hf := Nat.eq_of_beq_eq_true hf
      subst hf
      exact entry_ok e22 (by kernel_rfl) (by kernel_rfl) h
    · skip
      split at h
      · rename_i hf
        have hf := Nat.eq_of_beq_eq_true hf
        subst hf
        exact entry_ok e14 (by kernel_rfl) (by kernel_rfl) h
      · skip
        split at h
        · rename_i hf
          have hf := Nat.eq_of_beq_eq_true hf
          subst hf
          exact entry_ok e17 (by kernel_rfl) (by kernel_rfl) h
        · skip
          split at h
          · rename_i hf
            have hf := Nat.eq_of_beq_eq_true hf
            subst hf
            exact entry_ok e18 (by kernel_rfl) (by kernel_rfl) h
          · skip
            split at h
            · rename_i hf
              have hf := Nat.eq_of_beq_eq_true hf
              subst hf
              exact entry_ok e24 (by kernel_rfl) (by kernel_rfl) h
            · rw [look2_nil] at h
              cases h
  · rename_i x y hne
    split at h
    · rename_i hc
      simp only [Bool.and_eq_true] at hc
      have hf := Nat.eq_of_beq_eq_true hc.1
      subst hf
      injection h with h
      subst h
      have h3 := List.all_eq_true.1 symAll _ (inSym_mem hc.2)
      simp only [Bool.and_eq_true] at h3
      exact ⟨pure_of call0OK h3.2, by simp [AV.plain2, h3.1.1, h3.1.2]⟩
    · cases h
  · cases h
end
noncomputable def callp : CallF := callP tbl (smL [(16, S16)]) (envL env) 3000 60
theorem callOK [Glo] [Tab] : CallOK Tryd.prog callp := callP_ok tbl_ok (smL_ok (l := [(16, S16)]) ⟨s16, trivial⟩) envOK mixed 3000 60
noncomputable def body : Code := match Tryd.f5.body with
  | some c => c
  | none => .skip
theorem hb : Tryd.f5.body = some body := by kernel_rfl
noncomputable def p0 : Code := seqL (body)
noncomputable def a0 : AC := (.reg [⟨(some 3), none, (.k (.box 23 (.tmp 0))), [], 0⟩, ⟨(some 4), none, (.k (.box 23 (.tmp 1))), [], 0⟩, ⟨(some 6), none, (.p (.mv (.con (.bool false)))), [], 0⟩])
theorem c0 : compCode Tryd.prog Tryd.f5.ntmps p0 = some a0 := by kernel_rfl
noncomputable def p1 : Code := seqL (seqR (body))
noncomputable def a1 : AC := (.reg [⟨(some 11), none, (.c (.con (.fn 16 [] [])) []), [], 0⟩, ⟨(some 7), none, (.p (.mv (.tmp 11))), [], 0⟩])
theorem c1 : compCode Tryd.prog Tryd.f5.ntmps p1 = some a1 := by kernel_rfl
noncomputable def p2 : Code := seqL (seqR (seqR (body)))
noncomputable def a2 : AC := (.seq (.reg [⟨(some 12), none, (.l ⟨true, 2, (.tmp 3)⟩), [], 0⟩, ⟨(some 13), none, (.c (.con (.fn 22 [] [])) [(.tmp 12)]), [], 0⟩, ⟨(some 14), none, (.p (.mv (.tmp 13))), [], 0⟩, ⟨(some 15), (some (14, true)), (.l ⟨true, 2, (.tmp 4)⟩), [], 0⟩, ⟨(some 16), (some (14, true)), (.c (.con (.fn 22 [] [])) [(.tmp 15)]), [], 0⟩, ⟨(some 17), none, (.p (.pick (.tmp 14) (.tmp 16) (.con (.bool false)))), [], 0⟩, ⟨(some 18), none, (.p (.mv (.tmp 17))), [], 0⟩, ⟨(some 19), (some (18, true)), (.l ⟨true, 2, (.tmp 3)⟩), [], 0⟩, ⟨(some 20), (some (18, true)), (.l ⟨true, 2, (.tmp 4)⟩), [], 0⟩, ⟨(some 21), (some (18, true)), (.p (.eqs true [0, 1] (.tmp 19) (.tmp 20))), [], 0⟩, ⟨(some 22), none, (.p (.pick (.tmp 18) (.tmp 21) (.con (.bool false)))), [], 0⟩]) (.cond (.tmp 22) (.seq (.dreg [⟨(some 23), none, (.l ⟨true, 2, (.tmp 3)⟩), [3], 0⟩, ⟨(some 24), none, (.c (.con (.fn 17 [] [])) [(.tmp 23)]), [23], 1⟩, ⟨(some 25), none, (.l ⟨true, 2, (.tmp 4)⟩), [4], 0⟩, ⟨(some 26), none, (.c (.con (.fn 17 [] [])) [(.tmp 25)]), [25], 7⟩, ⟨(some 27), none, (.p (.bin .eql (.tmp 24) (.tmp 26))), [24, 26], 15⟩, ⟨(some 28), none, (.p (.mv (.tmp 27))), [27], 31⟩, ⟨(some 29), (some (28, true)), (.l ⟨true, 2, (.tmp 3)⟩), [3, 28], 63⟩, ⟨(some 30), (some (28, true)), (.c (.con (.fn 18 [] [])) [(.tmp 29)]), [29, 28], 127⟩, ⟨(some 31), (some (28, true)), (.l ⟨true, 2, (.tmp 4)⟩), [4, 28], 63⟩, ⟨(some 32), (some (28, true)), (.c (.con (.fn 18 [] [])) [(.tmp 31)]), [31, 28], 511⟩, ⟨(some 33), (some (28, true)), (.p (.bin .eql (.tmp 30) (.tmp 32))), [30, 32, 28], 1023⟩, ⟨(some 34), none, (.p (.pick (.tmp 28) (.tmp 33) (.con (.bool false)))), [28, 33], 2047⟩, ⟨(some 8), none, (.p (.mv (.tmp 34))), [34], 4095⟩]) (.seq (.dreg [⟨(some 35), none, (.l ⟨true, 2, (.tmp 3)⟩), [3], 0⟩, ⟨(some 36), none, (.c (.con (.fn 14 [] [])) [(.tmp 35)]), [35], 1⟩, ⟨(some 37), none, (.l ⟨true, 2, (.tmp 4)⟩), [4], 0⟩, ⟨(some 38), none, (.c (.con (.fn 14 [] [])) [(.tmp 37)]), [37], 7⟩, ⟨(some 39), none, (.p (.seq false (.tmp 36) (.tmp 38))), [36, 38], 15⟩, ⟨(some 40), none, (.p (.mv (.tmp 39))), [39], 31⟩, ⟨(some 41), (some (40, false)), (.p (.fieldA 0 (.tmp 3))), [3, 40], 63⟩, ⟨(some 42), (some (40, false)), (.l ⟨false, 1, (.tmp 41)⟩), [41, 40], 127⟩, ⟨(some 43), (some (40, false)), (.p (.fieldA 0 (.tmp 4))), [4, 40], 63⟩, ⟨(some 44), (some (40, false)), (.l ⟨false, 1, (.tmp 43)⟩), [43, 40], 319⟩, ⟨(some 45), (some (40, false)), (.p (.bin .eql (.tmp 42) (.tmp 44))), [42, 44, 40], 1023⟩, ⟨(some 46), (some (40, false)), (.p (.mv (.tmp 45))), [45, 40], 2047⟩, ⟨(some 47), (some (46, true)), (.p (.mv (.tmp 8))), [8, 46], 4095⟩, ⟨(some 48), (some (46, true)), (.p (.mv (.tmp 47))), [47, 46], 8191⟩, ⟨(some 49), (some (48, false)), (.l ⟨true, 2, (.tmp 3)⟩), [3, 48], 16383⟩, ⟨(some 50), (some (48, false)), (.c (.con (.fn 24 [] [])) [(.tmp 49)]), [49, 48], 32767⟩, ⟨(some 51), (some (48, false)), (.l ⟨true, 2, (.tmp 4)⟩), [4, 48], 16383⟩, ⟨(some 52), (some (48, false)), (.c (.con (.fn 24 [] [])) [(.tmp 51)]), [51, 48], 131071⟩, ⟨(some 53), (some (48, false)), (.p (.bin .neq (.tmp 50) (.tmp 52))), [50, 52, 48], 262143⟩, ⟨(some 54), (some (46, true)), (.p (.pick (.tmp 48) (.con (.bool true)) (.tmp 53))), [48, 53, 46], 524287⟩, ⟨(some 55), (some (40, false)), (.p (.pick (.tmp 46) (.tmp 54) (.con (.bool false)))), [46, 54, 40], 1048575⟩, ⟨(some 56), none, (.p (.pick (.tmp 40) (.con (.bool true)) (.tmp 55))), [40, 55], 2097151⟩]) (.cond (.tmp 56) (.seq (.reg [⟨(some 6), none, (.p (.mv (.con (.bool false)))), [], 0⟩]) .ret) .skip))) .skip))
theorem c2 : compCode Tryd.prog Tryd.f5.ntmps p2 = some a2 := by kernel_rfl
noncomputable def p3 : Code := seqL (seqR (seqR (seqR (body))))
noncomputable def a3 : AC := (.seq (.dreg [⟨(some 57), none, (.l ⟨true, 2, (.tmp 3)⟩), [3], 0⟩, ⟨(some 58), none, (.c (.con (.fn 22 [] [])) [(.tmp 57)]), [57], 1⟩, ⟨(some 59), none, (.p (.mv (.tmp 58))), [58], 3⟩, ⟨(some 60), (some (59, true)), (.l ⟨true, 2, (.tmp 3)⟩), [3, 59], 7⟩, ⟨(some 61), (some (59, true)), (.c (.con (.fn 18 [] [])) [(.tmp 60)]), [60, 59], 15⟩, ⟨(some 62), (some (59, true)), (.p (.bin .mul (.con (.int .i64 (.ofNat 8))) (.tmp 61))), [61, 59], 31⟩, ⟨(some 63), (some (59, true)), (.l ⟨true, 2, (.tmp 3)⟩), [3, 59], 7⟩, ⟨(some 64), (some (59, true)), (.c (.con (.fn 17 [] [])) [(.tmp 63)]), [63, 59], 95⟩, ⟨(some 65), (some (59, true)), (.p (.bin .add (.tmp 62) (.tmp 64))), [62, 64, 59], 255⟩, ⟨(some 66), (some (59, true)), (.p (.fieldA 1 (.tmp 3))), [3, 59], 7⟩, ⟨(some 67), (some (59, true)), (.l ⟨false, 1, (.tmp 66)⟩), [66, 59], 519⟩, ⟨(some 68), (some (59, true)), (.p (.bin .neq (.tmp 65) (.tmp 67))), [65, 67, 59], 2047⟩, ⟨(some 69), none, (.p (.pick (.tmp 59) (.tmp 68) (.con (.bool false)))), [59, 68], 4095⟩]) (.cond (.tmp 69) (.seq (.reg [⟨(some 6), none, (.p (.mv (.con (.bool false)))), [], 0⟩]) .ret) .skip))
theorem c3 : compCode Tryd.prog Tryd.f5.ntmps p3 = some a3 := by kernel_rfl
noncomputable def rest : Code := seqR (seqR (seqR (seqR (body))))
noncomputable def ar : AC := (.seq (.reg [⟨(some 70), none, (.p (.mv (.tmp 2))), [], 0⟩, ⟨(some 71), none, (.c (.con (.fn 25 [] [])) [(.tmp 70)]), [], 0⟩, ⟨(some 9), none, (.p (.mv (.tmp 71))), [], 0⟩]) (.seq (.seq (.reg [⟨(some 10), none, (.p (.mv (.con (.int .i64 (.ofNat 0))))), [], 0⟩]) (.block 0 (.loop (.seq (.seq (.reg [⟨(some 72), none, (.p (.mv (.tmp 10))), [], 0⟩, ⟨(some 73), none, (.p (.mv (.tmp 9))), [], 0⟩, ⟨(some 74), none, (.p (.len (.tmp 73))), [], 0⟩, ⟨(some 75), none, (.p (.bin .lss (.tmp 72) (.tmp 74))), [], 0⟩]) (.cond (.tmp 75) .skip (.exit 0))) (.seq (.block 1 (.seq (.dreg [⟨(some 78), none, (.p (.mv (.tmp 9))), [9], 0⟩, ⟨(some 79), none, (.p (.mv (.tmp 10))), [10], 0⟩, ⟨(some 80), none, (.p (.idxA 2 (.tmp 78) (.tmp 79))), [78, 79], 3⟩, ⟨(some 81), none, (.p (.fieldA 0 (.tmp 80))), [80], 7⟩, ⟨(some 82), none, (.l ⟨false, 1, (.tmp 81)⟩), [81], 15⟩, ⟨(some 83), none, (.p (.mv (.tmp 2))), [2], 0⟩, ⟨(some 84), none, (.p (.bin .neq (.tmp 82) (.tmp 83))), [82, 83], 63⟩, ⟨(some 85), none, (.p (.mv (.tmp 84))), [84], 127⟩, ⟨(some 86), (some (85, false)), (.p (.mv (.tmp 9))), [9, 85], 255⟩, ⟨(some 87), (some (85, false)), (.p (.mv (.tmp 10))), [10, 85], 255⟩, ⟨(some 88), (some (85, false)), (.p (.idxA 2 (.tmp 86) (.tmp 87))), [86, 87, 85], 1023⟩, ⟨(some 89), (some (85, false)), (.l ⟨true, 2, (.tmp 88)⟩), [88, 85], 2047⟩, ⟨(some 90), (some (85, false)), (.c (.con (.fn 22 [] [])) [(.tmp 89)]), [89, 85], 4095⟩, ⟨(some 91), (some (85, false)), (.p (.not (.tmp 90))), [90, 85], 8191⟩, ⟨(some 92), none, (.p (.pick (.tmp 85) (.con (.bool true)) (.tmp 91))), [85, 91], 16383⟩, ⟨(some 93), none, (.p (.mv (.tmp 92))), [92], 32767⟩, ⟨(some 94), (some (93, false)), (.p (.mv (.tmp 10))), [10, 93], 65535⟩, ⟨(some 95), (some (93, false)), (.p (.bin .gtr (.tmp 94) (.con (.int .i64 (.ofNat 0))))), [94, 93], 131071⟩, ⟨(some 96), (some (93, false)), (.p (.mv (.tmp 95))), [95, 93], 262143⟩, ⟨(some 97), (some (96, true)), (.p (.mv (.tmp 9))), [9, 96], 524287⟩, ⟨(some 98), (some (96, true)), (.p (.mv (.tmp 10))), [10, 96], 524287⟩, ⟨(some 99), (some (96, true)), (.p (.idxA 2 (.tmp 97) (.tmp 98))), [97, 98, 96], 2097151⟩, ⟨(some 100), (some (96, true)), (.p (.fieldA 1 (.tmp 99))), [99, 96], 4194303⟩, ⟨(some 101), (some (96, true)), (.l ⟨false, 1, (.tmp 100)⟩), [100, 96], 8388607⟩, ⟨(some 102), (some (96, true)), (.p (.mv (.tmp 9))), [9, 96], 524287⟩, ⟨(some 103), (some (96, true)), (.p (.mv (.tmp 10))), [10, 96], 524287⟩, ⟨(some 104), (some (96, true)), (.p (.bin .sub (.tmp 103) (.con (.int .i64 (.ofNat 1))))), [103, 96], 34078719⟩, ⟨(some 105), (some (96, true)), (.p (.idxA 2 (.tmp 102) (.tmp 104))), [102, 104, 96], 117964799⟩, ⟨(some 106), (some (96, true)), (.p (.fieldA 1 (.tmp 105))), [105, 96], 252182527⟩, ⟨(some 107), (some (96, true)), (.l ⟨false, 1, (.tmp 106)⟩), [106, 96], 520617983⟩, ⟨(some 108), (some (96, true)), (.p (.bin .leq (.tmp 101) (.tmp 107))), [101, 107, 96], 1073741823⟩, ⟨(some 109), (some (93, false)), (.p (.pick (.tmp 96) (.tmp 108) (.con (.bool false)))), [96, 108, 93], 2147483647⟩, ⟨(some 110), none, (.p (.pick (.tmp 93) (.con (.bool true)) (.tmp 109))), [93, 109], 4294967295⟩]) (.cond (.tmp 110) (.seq (.reg [⟨(some 6), none, (.p (.mv (.con (.bool false)))), [], 0⟩]) .ret) .skip))) (.reg [⟨(some 76), none, (.p (.mv (.tmp 10))), [], 0⟩, ⟨(some 77), none, (.p (.bin .add (.tmp 76) (.con (.int .i64 (.ofNat 1))))), [], 0⟩, ⟨(some 10), none, (.p (.mv (.tmp 77))), [], 0⟩])))))) (.seq (.reg [⟨(some 111), none, (.p (.mv (.tmp 7))), [], 0⟩, ⟨(some 112), none, (.p (.mv (.tmp 111))), [], 0⟩, ⟨(some 113), (some (112, true)), (.p (.mv (.tmp 9))), [], 0⟩, ⟨(some 114), (some (112, true)), (.p (.len (.tmp 113))), [], 0⟩, ⟨(some 115), (some (112, true)), (.p (.bin .gtr (.tmp 114) (.con (.int .i64 (.ofNat 0))))), [], 0⟩, ⟨(some 116), (some (112, true)), (.p (.mv (.tmp 2))), [], 0⟩, ⟨(some 117), (some (112, true)), (.p (.bin .geq (.tmp 116) (.con (.int .i64 (.ofNat 1))))), [], 0⟩, ⟨(some 118), (some (112, true)), (.p (.mv (.tmp 117))), [], 0⟩, ⟨(some 119), (some (118, true)), (.p (.mv (.tmp 2))), [], 0⟩, ⟨(some 120), (some (118, true)), (.p (.bin .leq (.tmp 119) (.con (.int .i64 (.ofNat 8))))), [], 0⟩, ⟨(some 121), (some (112, true)), (.p (.pick (.tmp 118) (.tmp 120) (.con (.bool false)))), [], 0⟩, ⟨(some 122), (some (112, true)), (.p (.eqb false (.tmp 115) (.tmp 121))), [], 0⟩, ⟨(some 123), none, (.p (.pick (.tmp 112) (.tmp 122) (.con (.bool false)))), [], 0⟩, ⟨(some 6), none, (.p (.mv (.tmp 123))), [], 0⟩]) .ret)))
theorem cr : compCode Tryd.prog Tryd.f5.ntmps rest = some ar := by kernel_rfl
theorem parts : body = seqs [p0, p1, p2, p3] rest := by kernel_rfl
noncomputable def ps : List Code := [p0, p1, p2, p3]
noncomputable def acs : List AC := [a0, a1, a2, a3]
theorem comps : CompAll Tryd.prog Tryd.f5.ntmps ps acs := ⟨c0, c1, c2, c3, trivial⟩
noncomputable def ars : List ARes := [(.tmp 6)]
theorem hr : compRes Tryd.prog Tryd.f5.ntmps Tryd.f5.results.toList = some ars := by kernel_rfl
noncomputable def ccase (i : Nat) : AV := match Nat.blt i 8 with
  | true => .int .i64 (Int.ofNat (i + 1))
  | false => .num (.off [(.ofNat 1, .ofNat 8)])
noncomputable def ncase (j : Nat) : AV := match Nat.blt j 16 with
  | true => .int .i64 (Int.ofNat j)
  | false => match Nat.beq j 16 with
    | true => .num (.iv (.ofNat 16) (.ofNat 9223372036854775807))
    | false => match Nat.beq j 17 with
      | true => .num (.iv (.negSucc 9223372036854775807) (.negSucc 9223372036854775804))
      | false => .num (.iv (.negSucc 9223372036854775803) (.negSucc 0))
theorem range {a : Int} (h : (Lit.int .i64 a).wf = true) : -9223372036854775808 ≤ a ∧ a ≤ 9223372036854775807 := by
  obtain ⟨_, _, ok⟩ := pk_ok 1 (by decide) h
  exact ok.2.2
theorem ccase_ok (a : Int) : ∃ i, i < 9 ∧ ∀ ρ, VR ρ (ccase i) (.int .i64 a) := by
  by_cases h : 1 ≤ a ∧ a ≤ 8
  · obtain ⟨k, rfl⟩ : ∃ k : Nat, a = .ofNat k := ⟨a.toNat, by show a = ((a.toNat : Nat) : Int); omega⟩
    have h2 : (1 : Int) ≤ (k : Int) ∧ (k : Int) ≤ 8 := h
    obtain ⟨i, rfl⟩ : ∃ i, k = i + 1 := ⟨k - 1, by omega⟩
    refine ⟨i, by omega, fun ρ => ?_⟩
    have hi : Nat.blt i 8 = true := by rw [Nat.blt_eq]; omega
    unfold ccase
    rw [hi]
    exact .int _ _
  · refine ⟨8, by omega, fun ρ => .num _ _ fun p hp => ?_⟩
    simp only [List.mem_cons, List.not_mem_nil, or_false] at hp
    subst hp
    exact h
theorem ncase_ok {b : Int} (hb : (Lit.int .i64 b).wf = true) : ∃ j, j < 19 ∧ ∀ ρ, VR ρ (ncase j) (.int .i64 b) := by
  obtain ⟨h1, h2⟩ := range hb
  by_cases h : 0 ≤ b ∧ b ≤ 15
  · obtain ⟨k, rfl⟩ : ∃ k : Nat, b = .ofNat k := ⟨b.toNat, by show b = ((b.toNat : Nat) : Int); omega⟩
    have h3 : (0 : Int) ≤ (k : Int) ∧ (k : Int) ≤ 15 := h
    refine ⟨k, by omega, fun ρ => ?_⟩
    have hk : Nat.blt k 16 = true := by rw [Nat.blt_eq]; omega
    unfold ncase
    rw [hk]
    exact .int _ _
  · by_cases h3 : b ≤ -9223372036854775805
    · exact ⟨17, by omega, fun ρ => .num (.iv (.negSucc 9223372036854775807) (.negSucc 9223372036854775804)) _ ⟨by omega, by omega, h1, h2⟩⟩
    · by_cases h4 : b < 0
      · exact ⟨18, by omega, fun ρ => .num (.iv (.negSucc 9223372036854775803) (.negSucc 0)) _ ⟨by omega, by omega, h1, h2⟩⟩
      · exact ⟨16, by omega, fun ρ => .num (.iv (.ofNat 16) (.ofNat 9223372036854775807)) _ ⟨by show (16 : Int) ≤ b; omega, by show b ≤ (9223372036854775807 : Int); omega, h1, h2⟩⟩
noncomputable def lcase (i : Nat) : AV := match Nat.blt i 8 with
  | true => .int .i64 (Int.ofNat (i + 1))
  | false => match Nat.beq i 8 with
    | true => .num (.iv (.negSucc 9223372036854775807) (.ofNat 0))
    | false => .num (.iv (.ofNat 9) (.ofNat 9223372036854775807))
theorem lcase_ok {b : Int} (hb : -9223372036854775808 ≤ b ∧ b ≤ 9223372036854775807) : ∃ j, j < 10 ∧ ∀ ρ, VR ρ (lcase j) (.int .i64 b) := by
  obtain ⟨h1, h2⟩ := hb
  by_cases h : 1 ≤ b ∧ b ≤ 8
  · obtain ⟨k, rfl⟩ : ∃ k : Nat, b = .ofNat k := ⟨b.toNat, by show b = ((b.toNat : Nat) : Int); omega⟩
    have h3 : (1 : Int) ≤ (k : Int) ∧ (k : Int) ≤ 8 := h
    obtain ⟨i, rfl⟩ : ∃ i, k = i + 1 := ⟨k - 1, by omega⟩
    refine ⟨i, by omega, fun ρ => ?_⟩
    have hi : Nat.blt i 8 = true := by rw [Nat.blt_eq]; omega
    unfold lcase
    rw [hi]
    exact .int _ _
  · by_cases h3 : b < 1
    · exact ⟨8, by omega, fun ρ => .num (.iv (.negSucc 9223372036854775807) (.ofNat 0)) _ ⟨by omega, by show b ≤ (0 : Int); omega, h1, h2⟩⟩
    · exact ⟨9, by omega, fun ρ => .num (.iv (.ofNat 9) (.ofNat 9223372036854775807)) _ ⟨by show (9 : Int) ≤ b; omega, by show b ≤ (9223372036854775807 : Int); omega, h1, h2⟩⟩
noncomputable def arg (i j : Nat) : AV := .agg [ccase i, ncase j]
noncomputable def anyA : AV := .agg [.num (.pk 1 0), .num (.pk 1 0)]
noncomputable def st (a b : AV) : St := ⟨argsT [a, b, .num (.pk 1 0)] 0 .e, .e, 0⟩
noncomputable def sT : Sn := ⟨[(2, .num (.pk 1 0)), (7, .bool true)], [], 1000⟩
noncomputable def chk (a b : AV) : Bool := chkR sT (runs callp 3000 acs (st a b))
noncomputable def valid (i j : Nat) : Bool := match tbl 22 [arg i j] with
  | some (.bool b) => b
  | _ => false
noncomputable def good2 (i j : Nat) : Bool := match valid i j with
  | true => all1 (fun m => chk (arg i j) (arg (Nat.div m 19) (Nat.mod m 19))) 0 171
  | false => chk (arg i j) anyA
theorem rest_ok : all1 (fun i => chkF ars (exec callp 3000 ar ⟨sT.st.tm.put 2 (lcase i), sT.st.hp, sT.st.nx⟩)) 0 10 = true := by kernel_rfl
theorem fin_case [Glo] [Tab] (a b : AV) (h : chk a b = true) : Go.Proofs.YtdndcigppbhhdaaDoorAL.Fin Tryd.prog Tryd.f5.ntmps ars body (st a b) := by
  rw [parts]
  exact fin_chkR callOK mixed 3000 comps h (fin_ref 2 10 lcase (by kernel_rfl) (fun x h1 h2 => lcase_ok ⟨h1, h2⟩) fun i hi => fin_end callOK mixed 3000 cr (all1_ok (f := fun i => chkF ars (exec callp 3000 ar ⟨sT.st.tm.put 2 (lcase i), sT.st.hp, sT.st.nx⟩)) rest_ok i (Nat.zero_le i) (by omega)))
end Go.Proofs.YtdndcigppbhhdaaDoorAL.LReg.LRegAp
