/-
  The interpreter over abstract values: memory made, read, written. (text 4)
-/
import Derived.Test.YtdndcigppbhhdaaDoorAM3
import Derived.Laws.Rows
namespace Go.Proofs.YtdndcigppbhhdaaDoorAM
open Go.RowKit
set_option linter.unusedSimpArgs false
set_option linter.unusedVariables false
noncomputable section

def HF.up (h : HF) (id : Nat) (b : Blk) : HF := fun j => if j = id then some b else h j
def HF.rm (h : HF) (id : Nat) : HF := fun j => if j = id then none else h j
def Ren.up (ρ : Ren) (id : Nat) (p : Nat × Nat) : Ren := fun j => if j = id then some p else ρ j
theorem Ren.up_self (ρ : Ren) (id : Nat) (p : Nat × Nat) : ρ.up id p id = some p := by simp [Ren.up]
theorem Ren.up_ne (ρ : Ren) {id j : Nat} (p : Nat × Nat) (h : j ≠ id) : ρ.up id p j = ρ j := by simp [Ren.up, h]
theorem Ren.up_ext {ρ : Ren} {id : Nat} (p : Nat × Nat) (h : ρ id = none) : Ext ρ (ρ.up id p) := fun j q e => by
  rw [Ren.up_ne _ _ (fun he => by rw [he, h] at e; cases e)]
  exact e
theorem Ag.up {ρ : Ren} {nx id : Nat} (p : Nat × Nat) (h : nx ≤ id) : Ag nx ρ (ρ.up id p) := fun j hj => Ren.up_ne _ _ (by omega)
theorem Fr.up {ρ : Ren} {nx nx' id : Nat} (p : Nat × Nat) (h : Fr ρ nx) (hn : nx ≤ nx') (hid : id < nx') : Fr (ρ.up id p) nx' := fun j hj => by
  rw [Ren.up_ne _ _ (by omega)]
  exact h j (by omega)

/-! ### 8. A new block -/
section
variable [Glo] {ρ : Ren} {h : HF} {w : World} (H : HR ρ h w)
include H
theorem HR.alloc {id : Nat} (hid : ρ id = none) (blk : Blk) (cs : Array Value) (hc : VRL ρ blk.cells cs.toList) :
    HR (ρ.up id (w.heap.size, cs.size)) (h.up id blk) (w.alloc (.cells cs blk.elem)) where
  at_ := fun j bj hj => by
    by_cases e : j = id
    · subst e
      simp only [HF.up, if_pos] at hj
      injection hj with hj
      subst hj
      have hl := hc.length
      simp only [Array.length_toList] at hl
      refine ⟨w.heap.size, cs, Ren.up_self _ _ _, heap_alloc_new w _, by omega, fun _ => hl, ?_⟩
      rw [List.take_of_length_le (by simp; omega)]
      exact hc.ext (Ren.up_ext _ hid)
    · simp only [HF.up, if_neg e] at hj
      obtain ⟨b, c, h1, h2, h3, h4, h5⟩ := H.at_ j bj hj
      have hlt : b < w.heap.size := (Array.getElem?_eq_some_iff.1 h2).1
      exact ⟨b, c, by rw [Ren.up_ne _ _ e]; exact h1, by rw [heap_alloc_old w _ b hlt]; exact h2, h3, h4, h5.ext (Ren.up_ext _ hid)⟩
  inj := fun i j p q hi hj hp hq he => by
    by_cases e1 : i = id
    · by_cases e2 : j = id
      · rw [e1, e2]
      · exfalso
        subst e1
        rw [Ren.up_self] at hp
        injection hp with hp
        subst hp
        rw [Ren.up_ne _ _ e2] at hq
        simp only [HF.up, if_neg e2] at hj
        have := H.lt hj hq
        simp only at he
        omega
    · by_cases e2 : j = id
      · exfalso
        subst e2
        rw [Ren.up_self] at hq
        injection hq with hq
        subst hq
        rw [Ren.up_ne _ _ e1] at hp
        simp only [HF.up, if_neg e1] at hi
        have := H.lt hi hp
        simp only at he
        omega
      · simp only [HF.up, if_neg e1] at hi
        simp only [HF.up, if_neg e2] at hj
        rw [Ren.up_ne _ _ e1] at hp
        rw [Ren.up_ne _ _ e2] at hq
        exact H.inj i j p q hi hj hp hq he
  lo := fun i p hi hp => by
    by_cases e : i = id
    · subst e
      rw [Ren.up_self] at hp
      injection hp with hp
      subst hp
      exact H.low.1
    · simp only [HF.up, if_neg e] at hi
      rw [Ren.up_ne _ _ e] at hp
      exact H.lo i p hi hp
  low := ⟨by have := H.low.1; simp; omega, fun b hb => (heap_alloc_old w _ b (Nat.lt_of_lt_of_le hb H.low.1)).trans (H.low.2 b hb)⟩
theorem HR.alloc_FR {id : Nat} (hid : ρ id = none) (blk : Blk) (cs : Array Value) :
    FR ρ h w (ρ.up id (w.heap.size, cs.size)) (h.up id blk) (w.alloc (.cells cs blk.elem)) where
  os := rfl
  tape := rfl
  output := rfl
  size := by simp
  keep := fun b hb _ => heap_alloc_old w _ b hb
  img := fun j hj => by
    by_cases e : j = id
    · subst e
      exact ⟨_, Ren.up_self _ _ _, .inr (Nat.le_refl _)⟩
    · simp only [HF.up, if_neg e] at hj
      obtain ⟨p, hp⟩ := H.known hj
      exact ⟨p, by rw [Ren.up_ne _ _ e]; exact hp, .inl ⟨j, p, hj, hp, rfl⟩⟩

/-! ### 9. A block's cells written -/
theorem HR.write {id : Nat} {blk : Blk} (hb : h id = some blk) (cells : List AV) (hl : cells.length = blk.cells.length) (b : Nat) (c c' : Array Value) (hρ : ρ id = some (b, c.size)) (hg : w.heap[b]? = some (.cells c blk.elem (0, 0)))
    (hs : c'.size = c.size) (hc : VRL ρ cells (c'.toList.take cells.length)) : HR ρ (h.up id ⟨cells, blk.elem⟩) (w.setRow b c') where
  at_ := fun j bj hj => by
    by_cases e : j = id
    · subst e
      simp only [HF.up, if_pos] at hj
      injection hj with hj
      subst hj
      obtain ⟨b', c0, h1, h2, h3, h4, _⟩ := H.at_ j blk hb
      rw [hρ] at h1
      injection h1 with h1
      injection h1 with h1 h1'
      subst h1
      rw [hg] at h2
      injection h2 with h2
      injection h2 with h2
      subst h2
      exact ⟨b, c', by rw [hρ, hs], setRow_heap w b c c' _ _ hg, by simp only; omega, fun e => by simp only; rw [hl, h4 e, hs], hc⟩
    · simp only [HF.up, if_neg e] at hj
      obtain ⟨b', c0, h1, h2, h3, h4, h5⟩ := H.at_ j bj hj
      have hne : b' ≠ b := fun eb => e (H.inj j id (b', c0.size) (b, c.size) (by simp [hj]) (by simp [hb]) h1 hρ eb)
      exact ⟨b', c0, h1, by rw [setRow_other w b b' c' hne]; exact h2, h3, h4, h5⟩
  inj := fun i j p q hi hj hp hq he => by
    refine H.inj i j p q ?_ ?_ hp hq he
    · by_cases e : i = id
      · subst e; simp [hb]
      · simpa [HF.up, e] using hi
    · by_cases e : j = id
      · subst e; simp [hb]
      · simpa [HF.up, e] using hj
  lo := fun i p hi hp => H.lo i p (by
    by_cases e : i = id
    · subst e; simp [hb]
    · simpa [HF.up, e] using hi) hp
  low := ⟨by have := H.low.1; simp; omega, fun k hk => (setRow_other w b k c' (fun e => by
    have := H.lo id (b, c.size) (by simp [hb]) hρ
    simp only at this
    omega)).trans (H.low.2 k hk)⟩
theorem HR.write_FR {id : Nat} {blk : Blk} (hb : h id = some blk) (blk' : Blk) (b : Nat) (t : Nat) (c' : Array Value) (hρ : ρ id = some (b, t)) :
    FR ρ h w ρ (h.up id blk') (w.setRow b c') where
  os := rfl
  tape := rfl
  output := rfl
  size := by simp
  keep := fun k hk hn => setRow_other w b k c' (fun e => hn id (b, t) (by simp [hb]) hρ e.symm)
  img := fun j hj => by
    have hj' : (h j).isSome := by
      by_cases e : j = id
      · subst e; simp [hb]
      · simpa [HF.up, e] using hj
    obtain ⟨p, hp⟩ := H.known hj'
    exact ⟨p, hp, .inl ⟨j, p, hj', hp, rfl⟩⟩

/-! ### 10. A row that has been appended to takes its old one's place -/
theorem HR.grow {w' : World} {old : Nat → Prop} {row : Option Nat} {id : Nat} (hid : ρ id = none) (hgr : w.grownBy w' row) (hrow : ∀ k, row = some k → ∃ j p, (h j).isSome ∧ ρ j = some p ∧ p.1 = k)
    (hold : ∀ j p, (h j).isSome → ρ j = some p → ¬ old j → some p.1 ≠ row) (g : Nat) (c : Array Value) (blk : Blk) (hg : w'.heap[g]? = some (.cells c blk.elem (0, 0)))
    (hgn : row = some g ∨ g = w.heap.size) (hl : blk.cells.length ≤ c.size) (hodd : id % 2 ≠ 0) (hc : VRL ρ blk.cells (c.toList.take blk.cells.length))
    (h' : HF) (hh : ∀ j b, h' j = some b → h j = some b ∧ ¬ old j) :
    HR (ρ.up id (g, c.size)) (h'.up id blk) w' where
  at_ := fun j bj hj => by
    by_cases e : j = id
    · subst e
      simp only [HF.up, if_pos] at hj
      injection hj with hj
      subst hj
      exact ⟨g, c, Ren.up_self _ _ _, hg, hl, fun e => absurd e hodd, hc.ext (Ren.up_ext _ hid)⟩
    · simp only [HF.up, if_neg e] at hj
      obtain ⟨hj1, hj2⟩ := hh j bj hj
      obtain ⟨b, c0, h1, h2, h3, h4, h5⟩ := H.at_ j bj hj1
      have hlt : b < w.heap.size := (Array.getElem?_eq_some_iff.1 h2).1
      have hne := hold j _ (by simp [hj1]) h1 hj2
      exact ⟨b, c0, by rw [Ren.up_ne _ _ e]; exact h1, by rw [hgr.block b hlt hne]; exact h2, h3, h4, h5.ext (Ren.up_ext _ hid)⟩
  inj := fun i j p q hi hj hp hq he => by
    have away : ∀ k r, k ≠ id → (h'.up id blk k).isSome → ρ.up id (g, c.size) k = some r → (h k).isSome ∧ ρ k = some r ∧ r.1 ≠ g := by
      intro k r e hk hr
      simp only [HF.up, if_neg e] at hk
      rw [Ren.up_ne _ _ e] at hr
      obtain ⟨bk, hbk⟩ := Option.isSome_iff_exists.1 hk
      obtain ⟨h1, h2⟩ := hh k bk hbk
      refine ⟨by simp [h1], hr, fun eg => ?_⟩
      rcases hgn with hgn | hgn
      · exact hold k r (by simp [h1]) hr h2 (by rw [hgn, eg])
      · have := H.lt (id := k) (by simp [h1]) hr
        omega
    by_cases e1 : i = id
    · by_cases e2 : j = id
      · rw [e1, e2]
      · exfalso
        obtain ⟨_, _, hne⟩ := away j q e2 hj hq
        subst e1
        rw [Ren.up_self] at hp
        injection hp with hp
        subst hp
        exact hne he.symm
    · obtain ⟨h1, h2, hne⟩ := away i p e1 hi hp
      by_cases e2 : j = id
      · exfalso
        subst e2
        rw [Ren.up_self] at hq
        injection hq with hq
        subst hq
        exact hne he
      · obtain ⟨h3, h4, _⟩ := away j q e2 hj hq
        exact H.inj i j p q h1 h3 h2 h4 he
  lo := fun i p hi hp => by
    by_cases e : i = id
    · subst e
      rw [Ren.up_self] at hp
      injection hp with hp
      subst hp
      rcases hgn with hgn | hgn
      · obtain ⟨j, q, h1, h2, h3⟩ := hrow g hgn
        have := H.lo j q h1 h2
        simp only
        omega
      · have := H.low.1
        simp only
        omega
    · simp only [HF.up, if_neg e] at hi
      rw [Ren.up_ne _ _ e] at hp
      obtain ⟨bk, hbk⟩ := Option.isSome_iff_exists.1 hi
      exact H.lo i p (by simp [(hh i bk hbk).1]) hp
  low := ⟨Nat.le_trans H.low.1 hgr.size, fun k hk => (hgr.block k (Nat.lt_of_lt_of_le hk H.low.1) (fun e => by
    obtain ⟨j, p, h1, h2, h3⟩ := hrow k e.symm
    have := H.lo j p h1 h2
    omega)).trans (H.low.2 k hk)⟩
theorem HR.grow_FR {w' : World} {row : Option Nat} {id : Nat} (hid : ρ id = none) (hgr : w.grownBy w' row) (g t : Nat) (blk : Blk)
    (hrow : ∀ k, row = some k → ∃ j p, (h j).isSome ∧ ρ j = some p ∧ p.1 = k) (hgn : row = some g ∨ g = w.heap.size)
    (h' : HF) (hh : ∀ j b, h' j = some b → h j = some b) :
    FR ρ h w (ρ.up id (g, t)) (h'.up id blk) w' where
  os := hgr.os
  tape := hgr.tape
  output := hgr.output
  size := hgr.size
  keep := fun k hk hn => hgr.block k hk (fun e => by
    obtain ⟨j, p, h1, h2, h3⟩ := hrow k e.symm
    exact hn j p h1 h2 h3)
  img := fun j hj => by
    by_cases e : j = id
    · subst e
      refine ⟨_, Ren.up_self _ _ _, ?_⟩
      rcases hgn with hgn | hgn
      · obtain ⟨i, p, h1, h2, h3⟩ := hrow g hgn
        exact .inl ⟨i, p, h1, h2, h3⟩
      · exact .inr (by simp only; omega)
    · simp only [HF.up, if_neg e] at hj
      obtain ⟨bj, hbj⟩ := Option.isSome_iff_exists.1 hj
      have h1 := hh j bj hbj
      obtain ⟨p, hp⟩ := H.known (id := j) (by simp [h1])
      exact ⟨p, by rw [Ren.up_ne _ _ e]; exact hp, .inl ⟨j, p, by simp [h1], hp, rfl⟩⟩
end
end
end Go.Proofs.YtdndcigppbhhdaaDoorAM
