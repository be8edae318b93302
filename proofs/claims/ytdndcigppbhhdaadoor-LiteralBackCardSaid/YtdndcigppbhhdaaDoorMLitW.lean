/-
  What word comes to, told of lists of bytes: the digits run through one by one; in capitals, and without the _, it comes to the same. No program in sight.
-/
import Derived.Test.YtdndcigppbhhdaaDoorMWord3
import Derived.Test.YtdndcigppbhhdaaDoorMNum
namespace Go.Proofs.YtdndcigppbhhdaaDoorMLitW
open Go.Proofs Go.RowKit Go.Proofs.YtdndcigppbhhdaaDoorMWord Go.Proofs.YtdndcigppbhhdaaDoorMNum
/-- A list's byte. -/
def at_ (l : List UInt8) (i : Nat) : Nat := ((l[i]?).getD 0).toNat
theorem by_B (l : List UInt8) (i : Nat) : by_ (B l) i = at_ l i := by
  unfold by_ at_
  split
  · rename_i h
    have h' : i < l.length := by simpa [B_size] using h
    rw [List.getElem?_eq_getElem h']
    rfl
  · rename_i h
    have h' : ¬ i < l.length := by simpa [B_size] using h
    rw [List.getElem?_eq_none (by omega)]
    rfl
/-- The digits of a word at a base, one by one: the number (below 2^64) and whether it went over; none: one of them may not stand there. -/
def run (base : Nat) : Nat → List UInt8 → Nat → Bool → Option (Nat × Bool)
  | _, [], n, over => some (n, over)
  | prev, c :: r, n, over =>
    if c.toNat = 95 then (if prev = 95 ∨ r = [] then none else run base 95 r n over)
    else if base ≤ valN c.toNat then none else run base c.toNat r ((n * base + valN c.toNat) % 18446744073709551616) (over || decide (18446744073709551616 ≤ n * base + valN c.toNat))
def told (p : Int) : Option (Nat × Bool) → Int × Int × Int → Prop
  | some (m, o), r => r = if o then (0, 5, p) else (toI m, 0, 0)
  | none, _ => False
theorem at_cons {l : List UInt8} {i : Nat} {c : UInt8} {r : List UInt8} (h : l.drop i = c :: r) : at_ l i = c.toNat ∧ l.drop (i + 1) = r ∧ i < l.length := by
  have hi : i < l.length := by
    rcases Nat.lt_or_ge i l.length with h1 | h1
    · exact h1
    · rw [List.drop_of_length_le h1] at h; cases h
  rw [List.drop_eq_getElem_cons hi] at h
  injection h with h1 h2
  exact ⟨by unfold at_; rw [List.getElem?_eq_getElem hi, ← h1]; rfl, h2, hi⟩
/-- word's loop, from any place on. -/
theorem loop_run (l : List UInt8) (base low high : Nat) (p : Int) (hh : high ≤ l.length) : ∀ (d i n : Nat) (over : Bool) (f prev : Nat), high - i = d → low ≤ i → i ≤ high → high + 1 - i ≤ f → (prev = 95 ↔ (i = low ∨ at_ l (i - 1) = 95)) →
    told p (run base prev ((l.drop i).take (high - i)) n over) (loopW (B l) base low high p f i n over) ∨ (run base prev ((l.drop i).take (high - i)) n over = none ∧ ∃ j, i ≤ j ∧ j < high ∧ loopW (B l) base low high p f i n over = (0, 4, p + (j : Nat))) := by
  intro d
  induction d with
  | zero =>
    intro i n over f prev hd h1 h2 hf hp
    obtain ⟨f, rfl⟩ : ∃ g, f = g + 1 := ⟨f - 1, by omega⟩
    obtain rfl : i = high := by omega
    rw [Nat.sub_self, List.take_zero, run, loopW, if_pos rfl]
    exact .inl rfl
  | succ d ih =>
    intro i n over f prev hd h1 h2 hf hp
    obtain ⟨f, rfl⟩ : ∃ g, f = g + 1 := ⟨f - 1, by omega⟩
    have hi : i < l.length := by omega
    have hdrop := List.drop_eq_getElem_cons hi
    have hat : at_ l i = l[i].toNat := by unfold at_; rw [List.getElem?_eq_getElem hi]; rfl
    have hsub : high - i = (high - (i + 1)) + 1 := by omega
    rw [hdrop, hsub, List.take_succ_cons, run, loopW, if_neg (show ¬ i = high by omega), by_B, by_B, hat]
    by_cases c1 : l[i].toNat = 95
    · rw [if_pos c1, if_pos c1]
      have hr : (List.take (high - (i + 1)) (List.drop (i + 1) l) = []) ↔ i + 1 = high := by
        rw [List.take_eq_nil_iff]
        constructor
        · rintro (h | h)
          · omega
          · have := congrArg List.length h
            simp at this
            omega
        · intro h
          exact .inl (by omega)
      by_cases c2 : i = low ∨ i + 1 = high ∨ at_ l (i - 1) = 95
      · rw [if_pos c2, if_pos (by
          rcases c2 with h | h | h
          · exact .inl (hp.2 (.inl h))
          · exact .inr (hr.2 h)
          · exact .inl (hp.2 (.inr h)))]
        exact .inr ⟨rfl, i, Nat.le_refl _, by omega, rfl⟩
      · rw [if_neg c2, if_neg (by
          rintro (h | h)
          · rcases hp.1 h with h | h
            · exact c2 (.inl h)
            · exact c2 (.inr (.inr h))
          · exact c2 (.inr (.inl (hr.1 h))))]
        rcases ih (i + 1) n over f 95 (by omega) (by omega) (by omega) (by omega) ⟨fun _ => .inr (by rw [Nat.add_sub_cancel, hat, c1]), fun _ => rfl⟩ with h | ⟨h, j, h3, h4, h5⟩
        · exact .inl h
        · exact .inr ⟨h, j, by omega, h4, h5⟩
    · rw [if_neg c1, if_neg c1]
      by_cases c3 : base ≤ valN l[i].toNat
      · rw [if_pos c3, if_pos c3]
        exact .inr ⟨rfl, i, Nat.le_refl _, by omega, rfl⟩
      · rw [if_neg c3, if_neg c3]
        rcases ih (i + 1) ((n * base + valN l[i].toNat) % 18446744073709551616) (over || decide (18446744073709551616 ≤ n * base + valN l[i].toNat)) f l[i].toNat (by omega) (by omega) (by omega) (by omega) ⟨fun h => absurd h c1, fun h => by
          rcases h with h | h
          · omega
          · rw [Nat.add_sub_cancel, hat] at h; exact h⟩ with h | ⟨h, j, h3, h4, h5⟩
        · exact .inl h
        · exact .inr ⟨h, j, by omega, h4, h5⟩
/-- The digits of a word. -/
def part (l : List UInt8) : List UInt8 := (l.drop (shp (B l)).2.1).take ((shp (B l)).2.2 - (shp (B l)).2.1)
def Reads (l : List UInt8) (u : Nat) : Prop := (shp (B l)).2.1 ≠ (shp (B l)).2.2 ∧ run (shp (B l)).1 95 (part l) 0 false = some (u, false)
theorem word_of_reads {l : List UInt8} (hl : 1 ≤ l.length) {u : Nat} (h : Reads l u) (p : Int) : wordW (B l) p = (toI u, 0, 0) := by
  have hb := shp_bd (B l) (by rw [B_size]; exact hl)
  unfold wordW
  rw [if_neg h.1]
  have := loop_run l (shp (B l)).1 (shp (B l)).2.1 (shp (B l)).2.2 p (by have := hb.2.2; rwa [B_size] at this) _ _ 0 false ((shp (B l)).2.2 + 1) 95 rfl (Nat.le_refl _) hb.2.1 (by omega) ⟨fun _ => .inl rfl, fun _ => rfl⟩
  have h2 := h.2
  unfold part at h2
  rw [h2] at this
  rcases this with h3 | ⟨h3, _⟩
  · simpa [told] using h3
  · cases h3
theorem reads_of_word {l : List UInt8} (hl : 1 ≤ l.length) (p : Int) (h : (wordW (B l) p).2.1 = 0) : ∃ u, Reads l u ∧ wordW (B l) p = (toI u, 0, 0) := by
  have hb := shp_bd (B l) (by rw [B_size]; exact hl)
  have hw := h
  unfold wordW at h
  by_cases c : (shp (B l)).2.1 = (shp (B l)).2.2
  · rw [if_pos c] at h
    exact absurd h (by simp)
  · rw [if_neg c] at h
    rcases loop_run l (shp (B l)).1 (shp (B l)).2.1 (shp (B l)).2.2 p (by have := hb.2.2; rwa [B_size] at this) _ _ 0 false ((shp (B l)).2.2 + 1) 95 rfl (Nat.le_refl _) hb.2.1 (by omega) ⟨fun _ => .inl rfl, fun _ => rfl⟩ with h3 | ⟨_, j, _, _, h3⟩
    · cases hr : run (shp (B l)).1 95 (List.take ((shp (B l)).2.2 - (shp (B l)).2.1) (List.drop (shp (B l)).2.1 l)) 0 false with
      | none => rw [hr] at h3; exact h3.elim
      | some r =>
        obtain ⟨m, o⟩ := r
        rw [hr] at h3
        cases o with
        | true =>
          have h3 : _ = ((0 : Int), (5 : Int), p) := h3
          rw [h3] at h
          exact absurd h (by simp)
        | false =>
          have hR : Reads l m := ⟨c, hr⟩
          exact ⟨m, hR, word_of_reads hl hR p⟩
    · rw [h3] at h
      exact absurd h (by simp)
theorem word_fault {l : List UInt8} (hl : 1 ≤ l.length) (p : Int) (h : (wordW (B l) p).2.1 ≠ 0) : (wordW (B l) p).1 = 0 ∧ p ≤ (wordW (B l) p).2.2 ∧ (wordW (B l) p).2.2 ≤ p + l.length := by
  have hb := shp_bd (B l) (by rw [B_size]; exact hl)
  have hs := hb.2.2
  rw [B_size] at hs
  unfold wordW at h ⊢
  by_cases c : (shp (B l)).2.1 = (shp (B l)).2.2
  · rw [if_pos c]
    exact ⟨rfl, by dsimp only; omega, by dsimp only; omega⟩
  · rw [if_neg c] at h ⊢
    rcases loop_run l (shp (B l)).1 (shp (B l)).2.1 (shp (B l)).2.2 p hs _ _ 0 false ((shp (B l)).2.2 + 1) 95 rfl (Nat.le_refl _) hb.2.1 (by omega) ⟨fun _ => .inl rfl, fun _ => rfl⟩ with h3 | ⟨_, j, _, hj, h3⟩
    · cases hr : run (shp (B l)).1 95 (List.take ((shp (B l)).2.2 - (shp (B l)).2.1) (List.drop (shp (B l)).2.1 l)) 0 false with
      | none => rw [hr] at h3; exact h3.elim
      | some r =>
        obtain ⟨m, o⟩ := r
        rw [hr] at h3
        cases o with
        | true =>
          have h3 : _ = ((0 : Int), (5 : Int), p) := h3
          rw [h3]
          exact ⟨rfl, by dsimp only; omega, by dsimp only; omega⟩
        | false =>
          have h3 : _ = (toI m, (0 : Int), (0 : Int)) := h3
          rw [h3] at h
          exact absurd rfl h
    · rw [h3]
      exact ⟨rfl, by dsimp only; omega, by dsimp only; omega⟩
/-! ### In capitals; without the _ -/
/-- A byte in capitals. -/
def cap (c : UInt8) : UInt8 := if 97 ≤ c.toNat ∧ c.toNat ≤ 122 then UInt8.ofNat (c.toNat - 32) else c
theorem cap_facts : ∀ c : UInt8, ((cap c).toNat ||| 32) = (c.toNat ||| 32) ∧ ((cap c).toNat = 95 ↔ c.toNat = 95) ∧ valN (cap c).toNat = valN c.toNat ∧ ((cap c).toNat = 48 ↔ c.toNat = 48) ∧ (48 ≤ c.toNat → c.toNat ≤ 57 → cap c = c) := by
  have h : ∀ n : _root_.Fin 256, ((cap (UInt8.ofNat n.val)).toNat ||| 32) = ((UInt8.ofNat n.val).toNat ||| 32) ∧ ((cap (UInt8.ofNat n.val)).toNat = 95 ↔ (UInt8.ofNat n.val).toNat = 95) ∧ valN (cap (UInt8.ofNat n.val)).toNat = valN (UInt8.ofNat n.val).toNat ∧ ((cap (UInt8.ofNat n.val)).toNat = 48 ↔ (UInt8.ofNat n.val).toNat = 48) ∧ (48 ≤ (UInt8.ofNat n.val).toNat → (UInt8.ofNat n.val).toNat ≤ 57 → cap (UInt8.ofNat n.val) = UInt8.ofNat n.val) := by decide +kernel
  intro c
  have := h ⟨c.toNat, c.toNat_lt⟩
  simpa using this
theorem at_map (l : List UInt8) (i : Nat) : at_ (l.map cap) i = if i < l.length then (cap (l[i]?.getD 0)).toNat else 0 := by
  unfold at_
  rw [List.getElem?_map]
  split
  · rename_i h
    rw [List.getElem?_eq_getElem h]; rfl
  · rename_i h
    rw [List.getElem?_eq_none (by omega)]; rfl
theorem at_map_or (l : List UInt8) (i : Nat) (h : i < l.length) : (at_ (l.map cap) i ||| 32) = (at_ l i ||| 32) := by
  rw [at_map, if_pos h, (cap_facts _).1]; rfl
theorem at_map_48 (l : List UInt8) (i : Nat) (h : i < l.length) : (at_ (l.map cap) i = 48) ↔ (at_ l i = 48) := by
  rw [at_map, if_pos h, (cap_facts _).2.2.2.1]; rfl
theorem isB_list (l : List UInt8) (c : Nat) : isB (B l) c = (decide (2 < l.length) && (at_ l 0 == 48 && (at_ l 1 ||| 32) == c)) := by
  unfold isB
  rw [B_size, by_B, by_B]
theorem isB_cap (l : List UInt8) (c : Nat) : isB (B (l.map cap)) c = isB (B l) c := by
  rw [isB_list, isB_list, List.length_map]
  by_cases h : 2 < l.length
  · rw [at_map_or l 1 (by omega)]
    have := at_map_48 l 0 (by omega)
    rw [show (at_ (l.map cap) 0 == 48) = (at_ l 0 == 48) from by rw [Bool.eq_iff_iff, beq_iff_eq, beq_iff_eq]; exact this]
  · simp [h]
theorem shp_cap (l : List UInt8) (hl : 1 ≤ l.length) : shp (B (l.map cap)) = shp (B l) := by
  unfold shp
  simp only [isB_cap, B_size, by_B, List.length_map]
  rw [at_map_or l (l.length - 1) (by omega)]
theorem run_cap (base : Nat) : ∀ (l : List UInt8) (prev prev' n : Nat) (over : Bool), (prev = 95 ↔ prev' = 95) → run base prev (l.map cap) n over = run base prev' l n over
  | [], _, _, _, _, _ => rfl
  | c :: r, prev, prev', n, over, h => by
    have hc := cap_facts c
    rw [List.map_cons, run, run, hc.2.2.1]
    by_cases c1 : c.toNat = 95
    · rw [if_pos (hc.2.1.2 c1), if_pos c1]
      have e : (r.map cap = []) ↔ r = [] := List.map_eq_nil_iff
      by_cases c2 : prev' = 95 ∨ r = []
      · rw [if_pos c2, if_pos (by rcases c2 with h1 | h1; exact .inl (h.2 h1); exact .inr (e.2 h1))]
      · rw [if_neg c2, if_neg (by rintro (h1 | h1); exact c2 (.inl (h.1 h1)); exact c2 (.inr (e.1 h1)))]
        exact run_cap base r 95 95 n over Iff.rfl
    · rw [if_neg (fun h1 => c1 (hc.2.1.1 h1)), if_neg c1]
      by_cases c3 : base ≤ valN c.toNat
      · rw [if_pos c3, if_pos c3]
      · rw [if_neg c3, if_neg c3]
        exact run_cap base r _ _ _ _ hc.2.1
theorem reads_cap {l : List UInt8} (hl : 1 ≤ l.length) {u : Nat} (h : Reads l u) : Reads (l.map cap) u := by
  unfold Reads part at h ⊢
  rw [shp_cap l hl]
  refine ⟨h.1, ?_⟩
  rw [← List.map_drop, ← List.map_take, run_cap _ _ 95 95 _ _ Iff.rfl]
  exact h.2
/-- Without the _. -/
def bare (l : List UInt8) : List UInt8 := l.filter fun c => c.toNat != 95
theorem run_bare (base : Nat) : ∀ (l : List UInt8) (prev prev' n : Nat) (over : Bool) (r : Nat × Bool), run base prev l n over = some r → run base prev' (bare l) n over = some r
  | [], _, _, _, _, _, h => h
  | c :: t, prev, prev', n, over, r, h => by
    rw [run] at h
    unfold bare
    by_cases c1 : c.toNat = 95
    · rw [if_pos c1] at h
      rw [List.filter_cons, if_neg (by simp [c1])]
      split at h
      · cases h
      · exact run_bare base t 95 prev' n over r h
    · rw [if_neg c1] at h
      rw [List.filter_cons, if_pos (by simp [c1]), run, if_neg c1]
      split at h
      · cases h
      · rename_i h3
        rw [if_neg h3]
        exact run_bare base t _ _ _ _ r h
/-- What runs through is digits of the base. -/
theorem run_digits (base : Nat) : ∀ (l : List UInt8) (prev n : Nat) (over : Bool) (r : Nat × Bool), run base prev l n over = some r → ∀ c ∈ bare l, valN c.toNat < base
  | [], _, _, _, _, _ => by simp [bare]
  | c :: t, prev, n, over, r, h => by
    rw [run] at h
    unfold bare
    by_cases c1 : c.toNat = 95
    · rw [if_pos c1] at h
      rw [List.filter_cons, if_neg (by simp [c1])]
      split at h
      · cases h
      · exact run_digits base t 95 n over r h
    · rw [if_neg c1] at h
      rw [List.filter_cons, if_pos (by simp [c1])]
      split at h
      · cases h
      · rename_i h3
        intro x hx
        rcases List.mem_cons.1 hx with rfl | hx
        · omega
        · exact run_digits base t _ _ _ r h x hx
theorem run_first (base : Nat) (l : List UInt8) (n : Nat) (over : Bool) (r : Nat × Bool) (hl : l ≠ []) (h : run base 95 l n over = some r) : bare l ≠ [] := by
  cases l with
  | nil => exact absurd rfl hl
  | cons c t =>
    rw [run] at h
    by_cases c1 : c.toNat = 95
    · rw [if_pos c1, if_pos (.inl rfl)] at h; cases h
    · unfold bare
      rw [List.filter_cons, if_pos (by simp [c1])]
      simp
theorem val_facts : ∀ c : UInt8, (valN c.toNat < 16 → (c.toNat ||| 32) ≠ 104 ∧ (c.toNat ||| 32) ≠ 120 ∧ (c.toNat ||| 32) ≠ 111) ∧ (valN c.toNat < 10 → (c.toNat ||| 32) ≠ 98) ∧ ((c.toNat ||| 32) = 104 ∨ (c.toNat ||| 32) = 120 ∨ (c.toNat ||| 32) = 98 ∨ (c.toNat ||| 32) = 111 ∨ c.toNat = 48 → c.toNat ≠ 95) := by
  have h : ∀ n : _root_.Fin 256, (valN (UInt8.ofNat n.val).toNat < 16 → ((UInt8.ofNat n.val).toNat ||| 32) ≠ 104 ∧ ((UInt8.ofNat n.val).toNat ||| 32) ≠ 120 ∧ ((UInt8.ofNat n.val).toNat ||| 32) ≠ 111) ∧ (valN (UInt8.ofNat n.val).toNat < 10 → ((UInt8.ofNat n.val).toNat ||| 32) ≠ 98) ∧ (((UInt8.ofNat n.val).toNat ||| 32) = 104 ∨ ((UInt8.ofNat n.val).toNat ||| 32) = 120 ∨ ((UInt8.ofNat n.val).toNat ||| 32) = 98 ∨ ((UInt8.ofNat n.val).toNat ||| 32) = 111 ∨ (UInt8.ofNat n.val).toNat = 48 → (UInt8.ofNat n.val).toNat ≠ 95) := by decide +kernel
  intro c
  have := h ⟨c.toNat, c.toNat_lt⟩
  simpa using this
theorem pre {l : List UInt8} {c : Nat} (h : isB (B l) c = true) : ∃ z x r, l = z :: x :: r ∧ r ≠ [] ∧ z.toNat = 48 ∧ (x.toNat ||| 32) = c := by
  rw [isB_list] at h
  simp only [Bool.and_eq_true, decide_eq_true_eq, beq_iff_eq] at h
  match l, h with
  | z :: x :: y :: r, h => exact ⟨z, x, y :: r, rfl, by simp, h.2.1, h.2.2⟩
theorem isB_pre (z x : UInt8) (r : List UInt8) (c : Nat) (hr : r ≠ []) (hz : z.toNat = 48) : isB (B (z :: x :: r)) c = ((x.toNat ||| 32) == c) := by
  rw [isB_list]
  cases r with
  | nil => exact absurd rfl hr
  | cons y r => simp [at_, hz]
theorem at_last (l : List UInt8) : at_ l (l.length - 1) = ((l.getLast?).getD 0).toNat := by
  unfold at_
  rw [List.getLast?_eq_getElem?]
theorem last_pre (z x : UInt8) (r : List UInt8) (hr : r ≠ []) : at_ (z :: x :: r) ((z :: x :: r).length - 1) = (r.getLast hr).toNat := by
  rw [at_last, List.getLast?_eq_some_getLast (by simp)]
  simp [List.getLast_cons, hr]
theorem bare_pre (z x : UInt8) (r : List UInt8) (hz : z.toNat ≠ 95) (hx : x.toNat ≠ 95) : bare (z :: x :: r) = z :: x :: bare r := by
  simp [bare, hz, hx]
/-- A word that begins with 0 and a letter. -/
theorem reads_pre (base c : Nat) (z x : UInt8) (r : List UInt8) (hr : r ≠ []) (hz : z.toNat = 48) (hx : (x.toNat ||| 32) = c) (hc : c = 120 ∨ c = 98 ∨ c = 111) (hb : base = if c = 120 then 16 else if c = 98 then 2 else 8)
    (hs : shp (B (z :: x :: r)) = (base, 2, r.length + 2)) {u : Nat} (h : Reads (z :: x :: r) u) : Reads (bare (z :: x :: r)) u := by
  have hz95 : z.toNat ≠ 95 := by omega
  have hx95 : x.toNat ≠ 95 := (val_facts x).2.2 (by omega)
  unfold Reads part at h
  rw [hs] at h
  simp only [List.drop_succ_cons, List.drop_zero, Nat.add_sub_cancel, List.take_length] at h
  have hf := run_first base r 0 false _ hr h.2
  have hd := run_digits base r _ _ _ _ h.2
  have hrun := run_bare base r 95 95 0 false _ h.2
  rw [bare_pre z x r hz95 hx95]
  have hlast := hd _ (List.getLast_mem hf)
  have hl104 : ((List.getLast (bare r) hf).toNat ||| 32) ≠ 104 := ((val_facts _).1 (by rw [hb] at hlast; split at hlast <;> (try split at hlast) <;> omega)).1
  have hs' : shp (B (z :: x :: bare r)) = (base, 2, (bare r).length + 2) := by
    unfold shp
    rw [isB_pre z x _ 120 hf hz, isB_pre z x _ 98 hf hz, isB_pre z x _ 111 hf hz, by_B, B_size, last_pre z x _ hf, if_neg hl104, hx]
    rcases hc with rfl | rfl | rfl <;> simp [hb]
  unfold Reads part
  rw [hs']
  simp only [List.drop_succ_cons, List.drop_zero, Nat.add_sub_cancel, List.take_length]
  refine ⟨?_, hrun⟩
  have := List.length_pos_iff.2 hf
  omega
theorem isB_small {l : List UInt8} (c : Nat) (h : ∀ x ∈ l, (x.toNat ||| 32) ≠ c) : isB (B l) c = false := by
  rw [isB_list]
  match l, h with
  | [], _ => rfl
  | [_], _ => rfl
  | [_, _], _ => rfl
  | z :: x :: y :: r, h =>
    have := h x (by simp)
    simp [at_, this]
/-- A word of which the last byte is h. -/
theorem reads_h (m : List UInt8) (w : UInt8) (hw : (w.toNat ||| 32) = 104) (hs : shp (B (m ++ [w])) = (16, 0, m.length)) {u : Nat} (h : Reads (m ++ [w]) u) : Reads (bare (m ++ [w])) u := by
  have hw95 : w.toNat ≠ 95 := (val_facts w).2.2 (.inl hw)
  have hbw : bare (m ++ [w]) = bare m ++ [w] := by simp [bare, List.filter_append, hw95]
  unfold Reads part at h
  rw [hs] at h
  simp only [List.drop_zero, Nat.sub_zero, List.take_left'] at h
  have hm : m ≠ [] := by
    rintro rfl
    exact h.1 rfl
  have hf := run_first 16 m 0 false _ hm h.2
  have hd := run_digits 16 m _ _ _ _ h.2
  have hrun := run_bare 16 m 95 95 0 false _ h.2
  rw [hbw]
  have hB : isB (B (bare m ++ [w])) 120 = false := isB_small 120 (fun x hx => by
    rcases List.mem_append.1 hx with hx | hx
    · exact ((val_facts x).1 (hd x hx)).2.1
    · obtain rfl : x = w := by simpa using hx
      omega)
  have hl : at_ (bare m ++ [w]) ((bare m ++ [w]).length - 1) = w.toNat := by rw [at_last]; simp
  have hs' : shp (B (bare m ++ [w])) = (16, 0, (bare m).length) := by
    unfold shp
    rw [hB, by_B, B_size, hl, if_neg (by decide), if_pos hw]
    simp
  unfold Reads part
  rw [hs']
  simp only [List.drop_zero, Nat.sub_zero, List.take_left']
  refine ⟨?_, hrun⟩
  have := List.length_pos_iff.2 hf
  omega
/-- A word at base 10. -/
theorem reads_dec (l : List UInt8) (hl : l ≠ []) (hs : shp (B l) = (10, 0, l.length)) {u : Nat} (h : Reads l u) : Reads (bare l) u := by
  unfold Reads part at h
  rw [hs] at h
  simp only [List.drop_zero, Nat.sub_zero, List.take_length] at h
  have hf := run_first 10 l 0 false _ hl h.2
  have hd := run_digits 10 l _ _ _ _ h.2
  have hrun := run_bare 10 l 95 95 0 false _ h.2
  have hs' : shp (B (bare l)) = (10, 0, (bare l).length) := by
    have h16 : ∀ x ∈ bare l, valN x.toNat < 16 := fun x hx => by have := hd x hx; omega
    unfold shp
    rw [isB_small 120 (fun x hx => ((val_facts x).1 (h16 x hx)).2.1), isB_small 98 (fun x hx => (val_facts x).2.1 (hd x hx)), isB_small 111 (fun x hx => ((val_facts x).1 (h16 x hx)).2.2), by_B, B_size, at_last, List.getLast?_eq_some_getLast hf, Option.getD_some]
    rw [if_neg (by decide), if_neg ((val_facts _).1 (h16 _ (List.getLast_mem hf))).1, if_neg (by decide), if_neg (by decide)]
  unfold Reads part
  rw [hs']
  simp only [List.drop_zero, Nat.sub_zero, List.take_length]
  refine ⟨?_, hrun⟩
  have := List.length_pos_iff.2 hf
  omega
theorem reads_bare {l : List UInt8} (hl : l ≠ []) {u : Nat} (h : Reads l u) : Reads (bare l) u := by
  have hs : shp (B l) = shp (B l) := rfl
  conv at hs => rhs; unfold shp
  by_cases c1 : isB (B l) 120 = true
  · obtain ⟨z, x, r, rfl, hr, hz, hx⟩ := pre c1
    rw [if_pos c1, B_size] at hs
    exact reads_pre 16 120 z x r hr hz hx (.inl rfl) rfl hs h
  · rw [if_neg c1] at hs
    by_cases c2 : (by_ (B l) ((B l).size - 1) ||| 32) = 104
    · rw [if_pos c2, B_size] at hs
      rw [by_B, B_size, at_last, List.getLast?_eq_some_getLast hl, Option.getD_some] at c2
      have hm := List.dropLast_concat_getLast hl
      have hlen : l.dropLast.length = l.length - 1 := List.length_dropLast
      rw [← hlen] at hs
      generalize l.getLast hl = w at *
      generalize l.dropLast = m at *
      subst hm
      exact reads_h m w c2 hs h
    · rw [if_neg c2] at hs
      by_cases c3 : isB (B l) 98 = true
      · obtain ⟨z, x, r, rfl, hr, hz, hx⟩ := pre c3
        rw [if_pos c3, B_size] at hs
        exact reads_pre 2 98 z x r hr hz hx (.inr (.inl rfl)) rfl hs h
      · rw [if_neg c3] at hs
        by_cases c4 : isB (B l) 111 = true
        · obtain ⟨z, x, r, rfl, hr, hz, hx⟩ := pre c4
          rw [if_pos c4, B_size] at hs
          exact reads_pre 8 111 z x r hr hz hx (.inr (.inr rfl)) rfl hs h
        · rw [if_neg c4, B_size] at hs
          exact reads_dec l hl hs h
end Go.Proofs.YtdndcigppbhhdaaDoorMLitW
