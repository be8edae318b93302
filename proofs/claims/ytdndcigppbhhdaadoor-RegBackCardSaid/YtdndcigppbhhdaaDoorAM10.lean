/-
  The interpreter over abstract values: a region that draws its order: the invariant, and that each operation keeps it. (text 10)
-/
import Derived.Test.YtdndcigppbhhdaaDoorAM9
namespace Go.Proofs.YtdndcigppbhhdaaDoorAM
open Go.RowKit
set_option linter.unusedSimpArgs false
set_option linter.unusedVariables false
noncomputable section

section
variable {P : Program} {call : CallF} {nt : Nat} {ops : Array Oper} {as : List AOp} {ms : List Nat} {base : Nat} {D : Nat → DS} {val : Nat → AV} (G : Reg P call nt ops as ms base D val)

def Lof (listed : Array Bool) : Nat → Bool := fun i => listed.getD i false
def dstf (as : List AOp) (i : Nat) : Option Nat := (as[i]?).bind (·.dst)
def Pend (as : List AOp) (ms : List Nat) (D : Nat → DS) (L : Nat → Bool) (p i : Nat) (blk : Blk) : Prop := L i = true ∧ IsK as D i blk ∧ ∀ e, i < e → e < p → IsE as D e → (anc ms e).testBit i = false
open Classical in
def hS (as : List AOp) (ms : List Nat) (D : Nat → DS) (base : Nat) (L : Nat → Bool) (p : Nat) : HF := fun id =>
  if h : ∃ blk i, Pend as ms D L p i blk ∧ id = base + 2 * i then some h.choose else (D p).B.get id
theorem hS_p {L : Nat → Bool} {p i : Nat} {blk : Blk} (h : Pend as ms D L p i blk) : hS as ms D base L p (base + 2 * i) = some blk := by
  have hh : ∃ blk' i', Pend as ms D L p i' blk' ∧ base + 2 * i = base + 2 * i' := ⟨blk, i, h, rfl⟩
  unfold hS
  rw [dif_pos hh]
  obtain ⟨i', h1, h2⟩ := hh.choose_spec
  have : i' = i := by omega
  subst this
  rw [h1.2.1.fn h.2.1]
theorem hS_B {L : Nat → Bool} {p id : Nat} (h : ∀ i blk, Pend as ms D L p i blk → id ≠ base + 2 * i) : hS as ms D base L p id = (D p).B.get id := by
  unfold hS
  rw [dif_neg]
  rintro ⟨blk, i, h1, h2⟩
  exact h i blk h1 h2
theorem hS_cases [Glo] {L : Nat → Bool} {p id : Nat} {b : Blk} (h : hS as ms D base L p id = some b) : (∃ i, Pend as ms D L p i b ∧ id = base + 2 * i) ∨ ((∀ i blk, Pend as ms D L p i blk → id ≠ base + 2 * i) ∧ (D p).B.get id = some b) := by
  by_cases hh : ∃ i blk, Pend as ms D L p i blk ∧ id = base + 2 * i
  · obtain ⟨i, blk, h1, h2⟩ := hh
    subst h2
    rw [hS_p h1] at h
    injection h with h
    subst h
    exact .inl ⟨i, h1, rfl⟩
  · have : ∀ i blk, Pend as ms D L p i blk → id ≠ base + 2 * i := fun i blk h1 h2 => hh ⟨i, blk, h1, h2⟩
    rw [hS_B this] at h
    exact .inr ⟨this, h⟩

structure J [Glo] (nt : Nat) (ops : Array Oper) (as : List AOp) (ms : List Nat) (base : Nat) (D : Nat → DS) (val : Nat → AV) (tm0 : T AV) (ρ0 : Ren) (h0 : T Blk) (w0 : World) (df : List Deferred) (listed : Array Bool) (ρ : Ren) (p : Nat) (a : Act) (w : World) : Prop where
  sz : listed.size = ops.size
  dc : ∀ i, Lof listed i = true → ∀ j, j < ops.size → (anc ms i).testBit j = true → Lof listed j = true
  ple : p ≤ ops.size
  ep : ∀ e, IsE as D e → (Lof listed e = true ↔ e < p)
  tm : ∀ t u, lw (Lof listed) (dstf as) val tm0 ops.size t = some u → t < a.tmps.size ∧ VR ρ u (a.tmps.getD t undef)
  hp : HR ρ (hS as ms D base (Lof listed) p) w
  dj : ∀ i blk, Pend as ms D (Lof listed) p i blk → (D p).B.get (base + 2 * i) = none
  fr1 : ∀ id, (D p).nx ≤ id → ρ id = none
  fr2 : ∀ i, i < ops.size → Lof listed i = false → ρ (base + 2 * i) = none
  bn : base + 2 * ops.size ≤ (D p).nx
  ev : (D p).nx % 2 = 0
  ag : Ag base ρ0 ρ
  frm : FR ρ0 h0.get w0 ρ (hS as ms D base (Lof listed) p) w
  ts : a.tmps.size = nt
  df : a.defers = df

include G
theorem Reg.c2 {i : Nat} {o : Oper} (ho : ops[i]? = some o) {j : Nat} (hj : j < ops.size) (h : (anc ms i).testBit j = true) : ∃ e ∈ o.after, Region.binds .any e = true ∧ (e.on = j ∨ (anc ms e.on).testBit j = true) := by
  have hc := G.chk i o ho
  simp only [chkOne, Bool.and_eq_true] at hc
  have := List.all_eq_true.1 hc.2 j (by simp [hj])
  simp only [Bool.and_eq_true, Bool.or_eq_true, Bool.not_eq_true'] at this
  rcases this.1 with h1 | h1
  · have h' : (ms.getD i 0).testBit j = true := h
    rw [h1] at h'
    cases h'
  · obtain ⟨e, he1, he2⟩ := List.any_eq_true.1 h1
    simp only [Bool.and_eq_true, Bool.or_eq_true] at he2
    exact ⟨e, by simpa using he1, he2.1, he2.2.imp Nat.eq_of_beq_eq_true (fun h => h)⟩
theorem Reg.c1 {i : Nat} {o : Oper} (ho : ops[i]? = some o) {e : Edge} (he : e ∈ o.after) (hb : Region.binds .any e = true) : e.on < i := by
  have hc := G.chk i o ho
  simp only [chkOne, Bool.and_eq_true] at hc
  have := List.all_eq_true.1 hc.1 e (by simpa using he)
  simp only [Bool.or_eq_true, Bool.not_eq_true'] at this
  rcases this with h | h
  · rw [hb] at h; cases h
  · exact of_eq_true_ h
theorem Reg.dst_eq {i : Nat} {o : Oper} (ho : ops[i]? = some o) : ∃ ao, as[i]? = some ao ∧ ao.dst = o.dst ∧ (∀ t, o.dst = some t → t < nt) ∧ ao.need = o.looksAt ops ∧ compGd ops o.guard = some ao.gd ∧ compOK P o.op = some ao.k := by
  obtain ⟨ao, h1, h2⟩ := G.comp i o ho
  unfold compA at h2
  split at h2
  · rename_i d g k hd hg hk
    injection h2 with h2
    subst h2
    obtain ⟨rfl, h3⟩ := compD_ok hd
    exact ⟨_, h1, rfl, h3, rfl, hg, hk⟩
  · cases h2
theorem Reg.c3 [Glo] {i j : Nat} {o : Oper} (ho : ops[i]? = some o) (hj : j < ops.size) (hne : j ≠ i) {t : Nat} (hd : dstf as j = some t) (ht : t ∈ o.looksAt ops ∨ o.dst = some t) : (j < i → (anc ms i).testBit j = true) ∧ (i < j → (anc ms j).testBit i = true) := by
  have hc := G.chk i o ho
  simp only [chkOne, Bool.and_eq_true] at hc
  have := List.all_eq_true.1 hc.2 j (by simp [hj])
  simp only [Bool.and_eq_true, Bool.or_eq_true] at this
  rcases this.2 with h | h
  · exact absurd (Nat.eq_of_beq_eq_true h).symm hne
  · obtain ⟨ao, h1, h2, _⟩ := G.dst_eq (i := j) (o := ops[j]) (by simp [hj])
    have h3 : (ops[j]?).bind (·.dst) = some t := by
      simp only [dstf, h1, Option.bind_some, h2] at hd
      simp [hj, hd]
    rw [h3] at h
    simp only [Bool.or_eq_true, Bool.not_eq_true', Bool.or_eq_false_iff] at h
    rcases h with h | h
    · rcases ht with ht | ht
      · have : (o.looksAt ops).contains t = true := by simpa using ht
        rw [this] at h
        cases h.1
      · rw [ht] at h
        simp at h
    · constructor
      · intro hl
        have : Nat.blt j i = true := by simpa [Nat.blt_eq] using hl
        rw [this] at h
        exact h
      · intro hl
        have : Nat.blt j i = false := by
          cases hb : Nat.blt j i
          · rfl
          · have := of_eq_true_ hb
            omega
        rw [this] at h
        exact h

section
variable [Glo] {tm0 : T AV} {ρ0 : Ren} {h0 : T Blk} {w0 : World} {df : List Deferred} {listed : Array Bool} {ρ : Ren} {p : Nat} {a : Act} {w : World} (I : J nt ops as ms base D val tm0 ρ0 h0 w0 df listed ρ p a w)
include I
omit G in
theorem J.L_lt {i : Nat} (h : Lof listed i = true) : i < ops.size := by
  rw [← I.sz]
  rcases Nat.lt_or_ge i listed.size with hl | hg
  · exact hl
  · simp [Lof, Array.getD, Nat.not_lt.2 hg] at h

variable {i : Nat} {o : Oper} (hr : i ∈ Region.ready .any ops listed) (ho : ops[i]? = some o)
include hr ho
omit G in
theorem J.unl : Lof listed i = false := by
  have h := (mem_ready.1 hr).1
  have hi : i < listed.size := by rw [I.sz]; exact (Array.getElem?_eq_some_iff.1 ho).1
  simp only [Lof, Array.getD, hi, dif_pos] at h ⊢
  exact h
theorem J.anc {j : Nat} (hj : j < ops.size) (h : (anc ms i).testBit j = true) : Lof listed j = true := by
  obtain ⟨e, h1, h2, h3⟩ := G.c2 ho hj h
  obtain ⟨_, o', ho', hall⟩ := mem_ready.1 hr
  rw [ho] at ho'
  injection ho' with ho'
  subst ho'
  have hon : Lof listed e.on = true := hall e h1 h2
  rcases h3 with h3 | h3
  · rw [← h3]; exact hon
  · exact I.dc e.on hon j hj h3
/-- What the operation reads is what it read in the text's order. -/
theorem J.reads (h00 : (D 0).tm = tm0) : AR ρ (restr (D i).tm (o.looksAt ops)) a.tmps := by
  intro t v hv
  obtain ⟨h1, h2⟩ := restr_get hv
  have hi : i < ops.size := (Array.getElem?_eq_some_iff.1 ho).1
  refine I.tm t v ?_
  have hu := I.unl hr ho
  rw [lw_skip (n := i) ops.size (by omega) (fun j h3 h4 h5 => ?_)]
  · rw [lw_all h00 i (fun j hj => ?_) (fun j hj h5 => ?_)]
    · exact h2
    · obtain ⟨ao, ha⟩ := G.at_ (i := j) (by omega)
      have := G.tm j ao ha
      rw [this]
      simp [dstf, ha]
    · exact J.anc G I hr ho (by omega) ((G.c3 ho (by omega) (by omega) h5 (.inl h1)).1 hj)
  · by_cases e : j = i
    · subst e
      exact hu
    · have h6 := (G.c3 ho h4 e h5 (.inl h1)).2 (by omega)
      cases hL : Lof listed j with
      | false => rfl
      | true =>
        have := I.dc j hL i hi h6
        rw [hu] at this
        cases this

omit G hr ho in
theorem J.L' (hi : i < ops.size) (j : Nat) : Lof (listed.setIfInBounds i true) j = if j = i then true else Lof listed j := by
  simp only [Lof, Array.getD_eq_getD_getElem?]
  by_cases e : j = i
  · subst e
    rw [if_pos rfl]
    simp [I.sz, hi]
  · rw [if_neg e, Array.getElem?_setIfInBounds_ne (fun h => e h.symm)]

/-- The slots behind the operation. -/
theorem J.slots {ρ' : Ren} (hx : Ext ρ ρ') {cv : Value} (hv : VR ρ' (val i) cv) :
    ∀ t u, lw (Lof (listed.setIfInBounds i true)) (dstf as) val tm0 ops.size t = some u → t < (a.put o.dst cv).tmps.size ∧ VR ρ' u ((a.put o.dst cv).tmps.getD t undef) := by
  have hi : i < ops.size := (Array.getElem?_eq_some_iff.1 ho).1
  obtain ⟨ao, h1, h2, h3, _⟩ := G.dst_eq ho
  have hdi : dstf as i = o.dst := by simp [dstf, h1, h2]
  intro t u hu
  by_cases hd : o.dst = some t
  · have e1 : lw (Lof (listed.setIfInBounds i true)) (dstf as) val tm0 ops.size t = lw (Lof (listed.setIfInBounds i true)) (dstf as) val tm0 (i + 1) t := by
      refine lw_skip ops.size (by omega) (fun j h4 h5 h6 => ?_)
      rw [J.L' I hi, if_neg (by omega)]
      have h7 := (G.c3 ho h5 (by omega) h6 (.inr hd)).2 (by omega)
      cases hL : Lof listed j with
      | false => rfl
      | true =>
        have := I.dc j hL i hi h7
        rw [I.unl hr ho] at this
        cases this
    rw [e1] at hu
    simp only [lw] at hu
    rw [if_pos ⟨by rw [J.L' I hi, if_pos rfl], by rw [hdi, hd]⟩] at hu
    injection hu with hu
    subst hu
    have hlt : t < a.tmps.size := by rw [I.ts]; exact h3 t hd
    simp only [hd, Act.put]
    exact ⟨by simpa using hlt, by simpa [Array.getD, hlt] using hv⟩
  · have e1 : lw (Lof (listed.setIfInBounds i true)) (dstf as) val tm0 ops.size t = lw (Lof listed) (dstf as) val tm0 ops.size t := by
      refine lw_congr ops.size (fun j h4 h5 => ?_)
      rw [J.L' I hi]
      by_cases e : j = i
      · subst e
        rw [hdi] at h5
        exact absurd h5 hd
      · rw [if_neg e]
    rw [e1] at hu
    obtain ⟨h4, h5⟩ := I.tm t u hu
    refine ⟨by rw [put_size]; exact h4, ?_⟩
    have : (a.put o.dst cv).tmps.getD t undef = a.tmps.getD t undef := by
      cases hod : o.dst with
      | none => rfl
      | some d =>
        simp only [Act.put, Array.getD_eq_getD_getElem?]
        rw [Array.getElem?_setIfInBounds_ne (fun e => hd (by rw [hod, e]))]
    rw [this]
    exact h5.ext hx
theorem J.dc' : ∀ k, Lof (listed.setIfInBounds i true) k = true → ∀ j, j < ops.size → (Go.Proofs.YtdndcigppbhhdaaDoorAM.anc ms k).testBit j = true → Lof (listed.setIfInBounds i true) j = true := by
  have hi : i < ops.size := (Array.getElem?_eq_some_iff.1 ho).1
  intro k hk j hj hb
  rw [J.L' I hi] at hk ⊢
  by_cases ej : j = i
  · rw [if_pos ej]
  · rw [if_neg ej]
    by_cases ek : k = i
    · subst ek
      exact J.anc G I hr ho hj hb
    · rw [if_neg ek] at hk
      exact I.dc k hk j hj hb

/-- An operation that neither makes memory nor changes it. -/
theorem J.quiet (hE : ¬ IsE as D i) (hK : ∀ blk, ¬ IsK as D i blk) {cv : Value} (hv : VR ρ (val i) cv) : J nt ops as ms base D val tm0 ρ0 h0 w0 df (listed.setIfInBounds i true) ρ p (a.put o.dst cv) w := by
  have hi : i < ops.size := (Array.getElem?_eq_some_iff.1 ho).1
  have hP : ∀ q j blk, Pend as ms D (Lof (listed.setIfInBounds i true)) q j blk ↔ Pend as ms D (Lof listed) q j blk := by
    intro q j blk
    unfold Pend
    rw [J.L' I hi]
    by_cases e : j = i
    · subst e
      constructor
      · rintro ⟨_, h, _⟩; exact absurd h (hK blk)
      · rintro ⟨_, h, _⟩; exact absurd h (hK blk)
    · rw [if_neg e]
  have hh : hS as ms D base (Lof (listed.setIfInBounds i true)) p = hS as ms D base (Lof listed) p := by
    funext id
    by_cases hx : ∃ j blk, Pend as ms D (Lof listed) p j blk ∧ id = base + 2 * j
    · obtain ⟨j, blk, h1, h2⟩ := hx
      subst h2
      rw [hS_p h1, hS_p ((hP p j blk).2 h1)]
    · rw [hS_B (fun j blk h1 h2 => hx ⟨j, blk, h1, h2⟩), hS_B (fun j blk h1 h2 => hx ⟨j, blk, (hP p j blk).1 h1, h2⟩)]
  exact {
    sz := by simpa using I.sz
    dc := J.dc' G I hr ho
    ple := I.ple
    ep := fun e he => by
      rw [J.L' I hi, if_neg (fun h : e = i => hE (by rw [← h]; exact he))]
      exact I.ep e he
    tm := J.slots G I hr ho (Ext.refl ρ) hv
    hp := by rw [hh]; exact I.hp
    dj := fun j blk h => I.dj j blk ((hP p j blk).1 h)
    fr1 := I.fr1
    fr2 := fun j hj h => by
      rw [J.L' I hi] at h
      split at h
      · cases h
      · exact I.fr2 j hj h
    bn := I.bn
    ev := I.ev
    ag := I.ag
    frm := by rw [hh]; exact I.frm
    ts := by rw [put_size]; exact I.ts
    df := by rw [put_defers]; exact I.df }

/-- An allocation. -/
theorem J.alloc (hE : ¬ IsE as D i) {blk : Blk} (hK : IsK as D i blk) {cs : Array Value} (hcs : VRL ρ blk.cells cs.toList) {cv : Value} (hv : VR (ρ.up (base + 2 * i) (w.heap.size, cs.size)) (val i) cv) :
    J nt ops as ms base D val tm0 ρ0 h0 w0 df (listed.setIfInBounds i true) (ρ.up (base + 2 * i) (w.heap.size, cs.size)) p (a.put o.dst cv) (w.alloc (.cells cs blk.elem)) := by
  have hi : i < ops.size := (Array.getElem?_eq_some_iff.1 ho).1
  have hu := I.unl hr ho
  have hid : ρ (base + 2 * i) = none := I.fr2 i hi hu
  have hPi : Pend as ms D (Lof (listed.setIfInBounds i true)) p i blk := by
    refine ⟨by rw [J.L' I hi, if_pos rfl], hK, fun e h1 h2 h3 => ?_⟩
    cases hb : (Go.Proofs.YtdndcigppbhhdaaDoorAM.anc ms e).testBit i with
    | false => rfl
    | true =>
      have := I.dc e ((I.ep e h3).2 h2) i hi hb
      rw [hu] at this
      cases this
  have hP : ∀ j b, j ≠ i → (Pend as ms D (Lof (listed.setIfInBounds i true)) p j b ↔ Pend as ms D (Lof listed) p j b) := by
    intro j b e
    unfold Pend
    rw [J.L' I hi, if_neg e]
  have hN : ∀ b, ¬ Pend as ms D (Lof listed) p i b := fun b h => by
    have := h.1
    rw [hu] at this
    cases this
  have hB : (D p).B.get (base + 2 * i) = none := by
    cases hb : (D p).B.get (base + 2 * i) with
    | none => rfl
    | some b =>
      have : hS as ms D base (Lof listed) p (base + 2 * i) = some b := by
        rw [hS_B (fun j c h1 h2 => hN c (by have : j = i := by omega
                                            subst this
                                            exact h1))]
        exact hb
      obtain ⟨q, hq⟩ := I.hp.known (id := base + 2 * i) (by simp [this])
      rw [hid] at hq
      cases hq
  have hh : hS as ms D base (Lof (listed.setIfInBounds i true)) p = (hS as ms D base (Lof listed) p).up (base + 2 * i) blk := by
    funext id
    simp only [HF.up]
    by_cases e : id = base + 2 * i
    · subst e
      rw [if_pos rfl, hS_p hPi]
    · rw [if_neg e]
      by_cases hx : ∃ j b, Pend as ms D (Lof listed) p j b ∧ id = base + 2 * j
      · obtain ⟨j, b, h1, h2⟩ := hx
        subst h2
        have hji : j ≠ i := fun h => e (by rw [h])
        rw [hS_p h1, hS_p ((hP j b hji).2 h1)]
      · rw [hS_B (fun j b h1 h2 => hx ⟨j, b, h1, h2⟩), hS_B (fun j b h1 h2 => hx ⟨j, b, (hP j b (fun h => e (by rw [h2, h]))).1 h1, h2⟩)]
  have hlt : base + 2 * i < (D p).nx := by have := I.bn; omega
  exact {
    sz := by simpa using I.sz
    dc := J.dc' G I hr ho
    ple := I.ple
    ep := fun e he => by
      rw [J.L' I hi, if_neg (fun h : e = i => hE (by rw [← h]; exact he))]
      exact I.ep e he
    tm := J.slots G I hr ho (Ren.up_ext _ hid) hv
    hp := by rw [hh]; exact I.hp.alloc hid blk cs hcs
    dj := fun j b h => by
      by_cases e : j = i
      · subst e; exact hB
      · exact I.dj j b ((hP j b e).1 h)
    fr1 := fun id h => by
      rw [Ren.up_ne _ _ (by omega)]
      exact I.fr1 id h
    fr2 := fun j hj h => by
      rw [J.L' I hi] at h
      split at h
      · cases h
      · rw [Ren.up_ne _ _ (by omega)]
        exact I.fr2 j hj h
    bn := I.bn
    ev := I.ev
    ag := I.ag.trans (Ag.up _ (by omega)) (Nat.le_refl _)
    frm := by rw [hh]; exact I.frm.trans (I.hp.alloc_FR hid blk cs)
    ts := by rw [put_size]; exact I.ts
    df := by rw [put_defers]; exact I.df }
end
end
end
end Go.Proofs.YtdndcigppbhhdaaDoorAM
