/-
  The interpreter over abstract values: a region that draws its order: whatever order is drawn, the run in the text's order tells what comes out. (text 9)
-/
import Derived.Test.YtdndcigppbhhdaaDoorAM8
namespace Go.Proofs.YtdndcigppbhhdaaDoorAM
open Go.RowKit
set_option linter.unusedSimpArgs false
set_option linter.unusedVariables false
noncomputable section

/-! ### 18. What is compiled, and what is checked of the order -/
def maskGo : List Oper → List Nat → List Nat
  | [], acc => acc
  | o :: os, acc => maskGo os (acc ++ [o.after.toList.foldl (fun s e => match Region.binds .any e with
    | true => s ||| 2 ^ e.on ||| acc.getD e.on 0
    | false => s) 0])
def chkOne (ops : Array Oper) (ms : List Nat) (i : Nat) (o : Oper) : Bool :=
  o.after.toList.all (fun e => !Region.binds .any e || Nat.blt e.on i) &&
  (List.range ops.size).all fun j =>
    (!(ms.getD i 0).testBit j || o.after.toList.any (fun e => Region.binds .any e && (Nat.beq e.on j || (ms.getD e.on 0).testBit j))) &&
    (Nat.beq i j || match (ops[j]?).bind (·.dst) with
      | none => true
      | some t => !((o.looksAt ops).contains t || o.dst == some t) || (match Nat.blt j i with
        | true => (ms.getD i 0).testBit j
        | false => (ms.getD j 0).testBit i))
def chkAll (ops : Array Oper) (ms : List Nat) : List Oper → Nat → Bool
  | [], _ => true
  | o :: os, i => chkOne ops ms i o && chkAll ops ms os (i + 1)
def compDl (P : Program) (nt : Nat) (ops : Array Oper) (ms : List Nat) : List Oper → Nat → Option (List AOp)
  | [], _ => some []
  | o :: os, i => match compA P nt ops o (o.looksAt ops) (ms.getD i 0), compDl P nt ops ms os (i + 1) with
    | some a, some as => some (a :: as)
    | _, _ => none
def compDr (P : Program) (nt : Nat) (ops : Array Oper) : Option (List AOp) :=
  match chkAll ops (maskGo ops.toList []) ops.toList 0 with
  | true => compDl P nt ops (maskGo ops.toList []) ops.toList 0
  | false => none

theorem chkAll_ok {ops : Array Oper} {ms : List Nat} : ∀ {l : List Oper} {i : Nat}, chkAll ops ms l i = true → ∀ j o, l[j]? = some o → chkOne ops ms (i + j) o = true
  | [], i, h, j, o, hj => by simp at hj
  | o' :: l, i, h, j, o, hj => by
    simp only [chkAll, Bool.and_eq_true] at h
    cases j with
    | zero =>
      simp at hj
      subst hj
      exact h.1
    | succ j =>
      have := chkAll_ok h.2 j o (by simpa using hj)
      rwa [show i + 1 + j = i + (j + 1) by omega] at this
theorem compDl_ok {P : Program} {nt : Nat} {ops : Array Oper} {ms : List Nat} : ∀ {l : List Oper} {i : Nat} {as : List AOp}, compDl P nt ops ms l i = some as →
    as.length = l.length ∧ ∀ j o, l[j]? = some o → ∃ ao, as[j]? = some ao ∧ compA P nt ops o (o.looksAt ops) (ms.getD (i + j) 0) = some ao
  | [], i, as, h => by
    simp only [compDl, Option.some.injEq] at h
    subst h
    exact ⟨rfl, fun j o hj => by simp at hj⟩
  | o' :: l, i, as, h => by
    simp only [compDl] at h
    split at h
    · rename_i a as' h1 h2
      injection h with h
      subst h
      obtain ⟨h3, h4⟩ := compDl_ok h2
      refine ⟨by simp [h3], fun j o hj => ?_⟩
      cases j with
      | zero =>
        simp at hj
        subst hj
        exact ⟨a, rfl, h1⟩
      | succ j =>
        obtain ⟨ao, h5, h6⟩ := h4 j o (by simpa using hj)
        refine ⟨ao, by simpa using h5, ?_⟩
        rwa [show i + 1 + j = i + (j + 1) by omega] at h6
    · cases h

/-! ### 19. The slots behind some of the operations -/
def lw (L : Nat → Bool) (dst : Nat → Option Nat) (val : Nat → AV) (tm0 : T AV) : Nat → Nat → Option AV
  | 0, t => tm0.get t
  | n + 1, t => if L n = true ∧ dst n = some t then some (val n) else lw L dst val tm0 n t
section
variable {dst : Nat → Option Nat} {val : Nat → AV} {tm0 : T AV}
theorem lw_congr {L L' : Nat → Bool} {t : Nat} : ∀ n, (∀ j, j < n → dst j = some t → L j = L' j) → lw L dst val tm0 n t = lw L' dst val tm0 n t
  | 0, _ => rfl
  | n + 1, h => by
    simp only [lw]
    rw [lw_congr n (fun j hj => h j (by omega))]
    by_cases hd : dst n = some t
    · rw [h n (by omega) hd]
    · simp [hd]
theorem lw_skip {L : Nat → Bool} {t n : Nat} : ∀ m, n ≤ m → (∀ j, n ≤ j → j < m → dst j = some t → L j = false) → lw L dst val tm0 m t = lw L dst val tm0 n t
  | 0, hn, _ => by
    have : n = 0 := by omega
    subst this
    rfl
  | m + 1, hn, h => by
    by_cases e : n = m + 1
    · subst e
      rfl
    · simp only [lw]
      rw [if_neg (fun hh => by have := h m (by omega) (by omega) hh.2; rw [this] at hh; cases hh.1), lw_skip m (by omega) (fun j h1 h2 => h j h1 (by omega))]
theorem lw_all {D : Nat → DS} (h0 : (D 0).tm = tm0) {L : Nat → Bool} {t : Nat} : ∀ n, (∀ i, i < n → (D (i + 1)).tm = putA (D i).tm (dst i) (val i)) → (∀ j, j < n → dst j = some t → L j = true) → lw L dst val tm0 n t = (D n).tm.get t
  | 0, _, _ => by simp [lw, h0]
  | n + 1, h1, h2 => by
    simp only [lw]
    rw [h1 n (by omega), lw_all h0 n (fun i hi => h1 i (by omega)) (fun j hj => h2 j (by omega))]
    cases hd : dst n with
    | none => simp [putA]
    | some d =>
      simp only [putA, T.get_put, Option.some.injEq]
      by_cases e : t = d
      · subst e
        rw [if_pos ⟨h2 n (by omega) hd, rfl⟩, if_pos rfl]
      · rw [if_neg (fun hh => e hh.2.symm), if_neg e]
end

/-! ### 20. The region -/
structure Reg (P : Program) (call : CallF) (nt : Nat) (ops : Array Oper) (as : List AOp) (ms : List Nat) (base : Nat) (D : Nat → DS) (val : Nat → AV) : Prop where
  len : as.length = ops.size
  comp : ∀ i o, ops[i]? = some o → ∃ ao, as[i]? = some ao ∧ compA P nt ops o (o.looksAt ops) (ms.getD i 0) = some ao
  chk : ∀ i o, ops[i]? = some o → chkOne ops ms i o = true
  idx : ∀ i, i ≤ ops.size → (D i).i = i
  tm : ∀ i ao, as[i]? = some ao → (D (i + 1)).tm = putA (D i).tm ao.dst (val i)
  dc : ∀ i ao, as[i]? = some ao → DC call base ao (D i) (D (i + 1)) (val i)
  al0 : (D 0).al = []
  ld0 : (D 0).ld = []
  ef0 : (D 0).ef = []

section
variable {P : Program} {call : CallF} {nt : Nat} {ops : Array Oper} {as : List AOp} {ms : List Nat} {base : Nat} {D : Nat → DS} {val : Nat → AV} (G : Reg P call nt ops as ms base D val)

def anc (ms : List Nat) (i : Nat) : Nat := ms.getD i 0
def IsE (as : List AOp) (D : Nat → DS) (i : Nat) : Prop := ∃ ao, as[i]? = some ao ∧ wantA (restr (D i).tm ao.need) ao.gd = some true ∧ ao.k.isE = true
def IsK (as : List AOp) (D : Nat → DS) (i : Nat) (blk : Blk) : Prop := ∃ ao k ld, as[i]? = some ao ∧ wantA (restr (D i).tm ao.need) ao.gd = some true ∧ ao.k = .k k ∧ k.ev (restr (D i).tm ao.need) = some (blk, ld)
def IsL (as : List AOp) (D : Nat → DS) (i : Nat) (li : LI) : Prop := ∃ ao k id off, as[i]? = some ao ∧ wantA (restr (D i).tm ao.need) ao.gd = some true ∧ ao.k = .l k ∧ k.x.ev (restr (D i).tm ao.need) = some (.ptr id off) ∧ li = (k.agg, k.sz, id, off)

theorem IsE.not_K {i : Nat} {blk : Blk} (h : IsE as D i) : ¬ IsK as D i blk := by
  obtain ⟨ao, h1, h2, h3⟩ := h
  rintro ⟨ao', k, ld, h4, _, h5, _⟩
  rw [h1] at h4
  injection h4 with h4
  subst h4
  rw [h5] at h3
  cases h3
theorem IsE.not_L {i : Nat} {li : LI} (h : IsE as D i) : ¬ IsL as D i li := by
  obtain ⟨ao, h1, h2, h3⟩ := h
  rintro ⟨ao', k, id, off, h4, _, h5, _⟩
  rw [h1] at h4
  injection h4 with h4
  subst h4
  rw [h5] at h3
  cases h3
theorem IsK.fn {i : Nat} {b b' : Blk} (h : IsK as D i b) (h' : IsK as D i b') : b = b' := by
  obtain ⟨ao, k, ld, h1, _, h2, h3⟩ := h
  obtain ⟨ao', k', ld', h1', _, h2', h3'⟩ := h'
  rw [h1] at h1'
  injection h1' with h1'
  subst h1'
  rw [h2] at h2'
  injection h2' with h2'
  subst h2'
  rw [h3] at h3'
  injection h3' with h3'
  injection h3' with h3'
theorem IsE.lt {i : Nat} (h : IsE as D i) : i < as.length := by
  obtain ⟨ao, h1, _⟩ := h
  exact (List.getElem?_eq_some_iff.1 h1).1

include G
theorem Reg.anc_eq {i : Nat} {ao : AOp} (h : as[i]? = some ao) : ao.anc = anc ms i := by
  have hi : i < ops.size := by rw [← G.len]; exact (List.getElem?_eq_some_iff.1 h).1
  obtain ⟨ao', h1, h2⟩ := G.comp i ops[i] (by simp [hi])
  rw [h] at h1
  injection h1 with h1
  subst h1
  unfold compA at h2
  split at h2
  · injection h2 with h2
    subst h2
    rfl
  · cases h2
theorem Reg.notE {i : Nat} {ao : AOp} (h : as[i]? = some ao) (hn : ¬ IsE as D i) : (D (i + 1)).B = (D i).B ∧ (D (i + 1)).nx = (D i).nx := by
  rcases G.dc i ao h with ⟨_, _, e1, e2, _⟩ | ⟨_, _, _, _, e1, e2, _⟩ | ⟨_, _, _, _, _, _, _, e1, e2, _⟩ | ⟨_, _, _, _, _, _, _, _, _, e1, e2, _⟩ | ⟨hw, hk, _⟩
  · exact ⟨e1, e2⟩
  · exact ⟨e1, e2⟩
  · exact ⟨e1, e2⟩
  · exact ⟨e1, e2⟩
  · exact absurd ⟨ao, h, hw, hk⟩ hn
theorem Reg.at_ {i : Nat} (hi : i < ops.size) : ∃ ao, as[i]? = some ao := ⟨as[i]'(by rw [G.len]; exact hi), by simp⟩
theorem Reg.between [Glo] {p : Nat} : ∀ q, p ≤ q → q ≤ ops.size → (∀ e, p ≤ e → e < q → ¬ IsE as D e) → (D q).B = (D p).B ∧ (D q).nx = (D p).nx
  | 0, h1, _, _ => by
    have : p = 0 := by omega
    subst this
    exact ⟨rfl, rfl⟩
  | q + 1, h1, h2, h3 => by
    by_cases e : p = q + 1
    · subst e
      exact ⟨rfl, rfl⟩
    · obtain ⟨ao, ha⟩ := G.at_ (i := q) (by omega)
      have := G.notE ha (h3 q (by omega) (by omega))
      have ih := Reg.between q (by omega) (by omega) (fun e h4 h5 => h3 e h4 (by omega))
      exact ⟨this.1.trans ih.1, this.2.trans ih.2⟩
theorem Reg.ef [Glo] {e : Nat} (he : IsE as D e) : ∀ j, e < j → j ≤ ops.size → (e, (D e).B, (D (e + 1)).B) ∈ (D j).ef
  | 0, h, _ => absurd h (by omega)
  | j + 1, h1, h2 => by
    obtain ⟨ao, ha⟩ := G.at_ (i := j) (by omega)
    by_cases ej : e = j
    · subst ej
      rcases G.dc e ao ha with ⟨hw, _⟩ | ⟨_, _, hk, _⟩ | ⟨_, _, hk, _⟩ | ⟨_, _, hk, _⟩ | ⟨hw, hk, _, _, _, _, _, e5⟩
      · obtain ⟨ao', h3, h4, h5⟩ := he
        rw [ha] at h3
        injection h3 with h3
        subst h3
        rw [hw] at h4
        cases h4
      · obtain ⟨ao', h3, h4, h5⟩ := he
        rw [ha] at h3
        injection h3 with h3
        subst h3
        rw [hk] at h5
        cases h5
      · obtain ⟨ao', h3, h4, h5⟩ := he
        rw [ha] at h3
        injection h3 with h3
        subst h3
        rw [hk] at h5
        cases h5
      · obtain ⟨ao', h3, h4, h5⟩ := he
        rw [ha] at h3
        injection h3 with h3
        subst h3
        rw [hk] at h5
        cases h5
      · rw [e5, G.idx e (by omega)]
        exact List.mem_cons_self
    · have ih := Reg.ef he j (by omega) (by omega)
      rcases G.dc j ao ha with ⟨_, _, _, _, _, _, e5⟩ | ⟨_, _, _, _, _, _, _, _, e5⟩ | ⟨_, _, _, _, _, _, _, _, _, _, _, e5⟩ | ⟨_, _, _, _, _, _, _, _, _, _, _, _, _, e5⟩ | ⟨_, _, _, _, _, _, _, e5⟩
      · rw [e5]; exact ih
      · rw [e5]; exact ih
      · rw [e5]; exact ih
      · rw [e5]; exact ih
      · rw [e5]; exact List.mem_cons_of_mem _ ih
theorem Reg.ld [Glo] {i : Nat} {li : LI} (hl : IsL as D i li) : ∀ j, i < j → j ≤ ops.size → (i, li) ∈ (D j).ld
  | 0, h, _ => absurd h (by omega)
  | j + 1, h1, h2 => by
    obtain ⟨ao, ha⟩ := G.at_ (i := j) (by omega)
    by_cases ej : i = j
    · subst ej
      obtain ⟨ao', k', id', off', h3, h4, h5, h6, h7⟩ := hl
      rw [ha] at h3
      injection h3 with h3
      subst h3
      rcases G.dc i ao ha with ⟨hw, _⟩ | ⟨_, _, hk, _⟩ | ⟨_, _, hk, _⟩ | ⟨_, k, hk, id, off, hx, _, _, _, _, _, _, e4, _⟩ | ⟨hw, hk, _⟩
      · rw [hw] at h4; cases h4
      · rw [hk] at h5; cases h5
      · rw [hk] at h5; cases h5
      · rw [hk] at h5
        injection h5 with h5
        subst h5
        rw [hx] at h6
        injection h6 with h6
        injection h6 with h6 h6'
        subst h6 h6' h7
        rw [e4, G.idx i (by omega)]
        exact List.mem_cons_self
      · rw [h5] at hk; cases hk
    · have ih := Reg.ld hl j (by omega) (by omega)
      rcases G.dc j ao ha with ⟨_, _, _, _, _, e4, _⟩ | ⟨_, _, _, _, _, _, _, e4, _⟩ | ⟨_, _, _, _, _, _, _, _, _, _, e4, _⟩ | ⟨_, _, _, _, _, _, _, _, _, _, _, _, e4, _⟩ | ⟨_, _, _, _, _, _, e4, _⟩
      · rw [e4]; exact ih
      · rw [e4]; exact ih
      · rw [e4]; exact ih
      · rw [e4]; exact List.mem_cons_of_mem _ ih
      · rw [e4]; exact ih
/-- What is pending ahead of operation j. -/
theorem Reg.al [Glo] (i : Nat) (blk : Blk) : ∀ j, j ≤ ops.size → ((i, blk) ∈ (D j).al ↔ i < j ∧ IsK as D i blk ∧ ∀ e, i < e → e < j → IsE as D e → (anc ms e).testBit i = false)
  | 0, _ => by simp [G.al0]
  | j + 1, h2 => by
    obtain ⟨ao, ha⟩ := G.at_ (i := j) (by omega)
    have ih := Reg.al i blk j (by omega)
    have notE : (¬ IsE as D j) → (D (j + 1)).al = (D j).al → (¬ IsK as D j blk) → ((i, blk) ∈ (D (j + 1)).al ↔ i < j + 1 ∧ IsK as D i blk ∧ ∀ e, i < e → e < j + 1 → IsE as D e → (anc ms e).testBit i = false) := by
      intro hn e3 hk
      rw [e3, ih]
      constructor
      · rintro ⟨a1, a2, a3⟩
        refine ⟨by omega, a2, fun e h3 h4 h5 => ?_⟩
        by_cases ee : e = j
        · subst ee
          exact absurd h5 hn
        · exact a3 e h3 (by omega) h5
      · rintro ⟨a1, a2, a3⟩
        refine ⟨?_, a2, fun e h3 h4 h5 => a3 e h3 (by omega) h5⟩
        by_cases ee : i = j
        · subst ee
          exact absurd a2 hk
        · omega
    rcases G.dc j ao ha with ⟨hw, _, _, _, e3, _⟩ | ⟨_, _, hk, _, _, _, e3, _⟩ | ⟨hw, k, hk, blk', ld, hv, _, _, _, e3, _⟩ | ⟨_, _, hk, _, _, _, _, _, _, _, _, e3, _⟩ | ⟨hw, hk, _, _, _, e3, _⟩
    · refine notE ?_ e3 ?_
      · rintro ⟨ao', h3, h4, h5⟩
        rw [ha] at h3
        injection h3 with h3
        subst h3
        rw [hw] at h4
        cases h4
      · rintro ⟨ao', k, ld, h3, h4, h5⟩
        rw [ha] at h3
        injection h3 with h3
        subst h3
        rw [hw] at h4
        cases h4
    · refine notE ?_ e3 ?_
      · rintro ⟨ao', h3, h4, h5⟩
        rw [ha] at h3
        injection h3 with h3
        subst h3
        rw [hk] at h5
        cases h5
      · rintro ⟨ao', k, ld, h3, h4, h5, _⟩
        rw [ha] at h3
        injection h3 with h3
        subst h3
        rw [hk] at h5
        cases h5
    · have hn : ¬ IsE as D j := by
        rintro ⟨ao', h3, h4, h5⟩
        rw [ha] at h3
        injection h3 with h3
        subst h3
        rw [hk] at h5
        cases h5
      rw [e3, G.idx j (by omega), List.mem_cons, ih]
      constructor
      · rintro (hh | ⟨a1, a2, a3⟩)
        · injection hh with h3 h4
          subst h3 h4
          exact ⟨by omega, ⟨ao, k, ld, ha, hw, hk, hv⟩, fun e h5 h6 => by omega⟩
        · refine ⟨by omega, a2, fun e h3 h4 h5 => ?_⟩
          by_cases ee : e = j
          · subst ee
            exact absurd h5 hn
          · exact a3 e h3 (by omega) h5
      · rintro ⟨a1, a2, a3⟩
        by_cases ee : i = j
        · subst ee
          left
          rw [a2.fn ⟨ao, k, ld, ha, hw, hk, hv⟩]
        · exact .inr ⟨by omega, a2, fun e h3 h4 h5 => a3 e h3 (by omega) h5⟩
    · refine notE ?_ e3 ?_
      · rintro ⟨ao', h3, h4, h5⟩
        rw [ha] at h3
        injection h3 with h3
        subst h3
        rw [hk] at h5
        cases h5
      · rintro ⟨ao', k, ld, h3, h4, h5, _⟩
        rw [ha] at h3
        injection h3 with h3
        subst h3
        rw [hk] at h5
        cases h5
    · have hE : IsE as D j := ⟨ao, ha, hw, hk⟩
      rw [e3, List.mem_filter, ih, G.anc_eq ha]
      constructor
      · rintro ⟨⟨a1, a2, a3⟩, a4⟩
        refine ⟨by omega, a2, fun e h3 h4 h5 => ?_⟩
        by_cases ee : e = j
        · subst ee
          simpa using a4
        · exact a3 e h3 (by omega) h5
      · rintro ⟨a1, a2, a3⟩
        have hne : i ≠ j := fun ee => by
          subst ee
          exact hE.not_K a2
        exact ⟨⟨by omega, a2, fun e h3 h4 h5 => a3 e h3 (by omega) h5⟩, by simpa using a3 j (by omega) (by omega) hE⟩
/-- Effects come one behind the other. -/
theorem Reg.chain [Glo] {e e' : Nat} (he : IsE as D e) (he' : IsE as D e') (h : e' < e) : (anc ms e).testBit e' = true := by
  have hl := he.lt
  rw [G.len] at hl
  obtain ⟨ao, ha⟩ := G.at_ (i := e) hl
  have hm := G.ef he' e h (by omega)
  obtain ⟨ao', h3, h4, h5⟩ := he
  rw [ha] at h3
  injection h3 with h3
  subst h3
  rw [← G.anc_eq ha]
  rcases G.dc e ao ha with ⟨hw, _⟩ | ⟨_, _, hk, _⟩ | ⟨_, _, hk, _⟩ | ⟨_, _, hk, _⟩ | ⟨_, _, _, h1, _⟩
  · rw [hw] at h4; cases h4
  · rw [hk] at h5; cases h5
  · rw [hk] at h5; cases h5
  · rw [hk] at h5; cases h5
  · exact h1 _ hm
/-- A load sees no effect that may come up on its other side. -/
theorem Reg.calm [Glo] {i e : Nat} {li : LI} (hl : IsL as D i li) (he : IsE as D e) (h1 : e < i → (anc ms i).testBit e = false) (h2 : i < e → (anc ms e).testBit i = false) : li.at_ (D e).B = li.at_ (D (e + 1)).B := by
  have hel := he.lt
  rw [G.len] at hel
  have hil : i < ops.size := by
    obtain ⟨ao, _, _, _, h3, _⟩ := hl
    rw [← G.len]
    exact (List.getElem?_eq_some_iff.1 h3).1
  rcases Nat.lt_trichotomy e i with h | h | h
  · obtain ⟨ao, ha⟩ := G.at_ (i := i) hil
    have hm := G.ef he i h (by omega)
    obtain ⟨ao', k', id', off', h3, h4, h5, h6, h7⟩ := hl
    rw [ha] at h3
    injection h3 with h3
    subst h3
    rcases G.dc i ao ha with ⟨hw, _⟩ | ⟨_, _, hk, _⟩ | ⟨_, _, hk, _⟩ | ⟨_, k, hk, id, off, hx, _, _, hc, _⟩ | ⟨_, hk, _⟩
    · rw [hw] at h4; cases h4
    · rw [hk] at h5; cases h5
    · rw [hk] at h5; cases h5
    · rw [hk] at h5
      injection h5 with h5
      subst h5
      rw [hx] at h6
      injection h6 with h6
      injection h6 with h6 h6'
      subst h6 h6' h7
      rcases hc _ hm with h8 | h8
      · rw [G.anc_eq ha, h1 h] at h8
        cases h8
      · exact h8
    · rw [h5] at hk; cases hk
  · subst h
    exact absurd hl he.not_L
  · obtain ⟨ao, ha⟩ := G.at_ (i := e) hel
    have hm := G.ld hl e h (by omega)
    obtain ⟨ao', h3, h4, h5⟩ := he
    rw [ha] at h3
    injection h3 with h3
    subst h3
    rcases G.dc e ao ha with ⟨hw, _⟩ | ⟨_, _, hk, _⟩ | ⟨_, _, hk, _⟩ | ⟨_, _, hk, _⟩ | ⟨_, _, _, _, hc, _⟩
    · rw [hw] at h4; cases h4
    · rw [hk] at h5; cases h5
    · rw [hk] at h5; cases h5
    · rw [hk] at h5; cases h5
    · rcases hc _ hm with h8 | h8
      · rw [G.anc_eq ha, h2 h] at h8
        cases h8
      · exact h8
end
end
end Go.Proofs.YtdndcigppbhhdaaDoorAM
