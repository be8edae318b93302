/-
  LiteralSpelled, the plain law: a word that is read is read alike in capitals, and without its _; of what the machine's side computes (the printed functions), for every text.
-/
import Derived.Test.YtdndcigppbhhdaaDoorQLiteralSpelledx3
import Derived.Test.YtdndcigppbhhdaaDoorMLitW
import Derived.Laws.BitsAllLaws
namespace Go.Proofs.YtdndcigppbhhdaaDoor.Pure
open Go.RowKit Go.Proofs.YtdndcigppbhhdaaDoor.QLiteralSpelled Go.Proofs.YtdndcigppbhhdaaDoorW.PrintWords Go.Proofs.YtdndcigppbhhdaaDoorW.PrintLast Go.Proofs.YtdndcigppbhhdaaDoorW.PrintMore Go.Proofs.YtdndcigppbhhdaaDoorMNum Go.Proofs.YtdndcigppbhhdaaDoorMWord Go.Proofs.YtdndcigppbhhdaaDoorMLitW
namespace LSp
theorem bt_B (l : List UInt8) (i : Nat) : bt (B l) (i : Int) = ((at_ l i : Nat) : Int) := by
  unfold bt at_
  simp only [Int.toNat_natCast]
  split
  · rename_i h
    have h' : i < l.length := by simpa [B_size] using h
    rw [List.getElem?_eq_getElem h']
    rfl
  · rename_i h
    have h' : ¬ i < l.length := by simpa [B_size] using h
    rw [List.getElem?_eq_none (by omega)]
    rfl
/-- Is a byte a word character? -/
def isL (c : Nat) : Bool := decide (48 ≤ c ∧ c ≤ 57) || decide (c = 95) || decide (97 ≤ (c ||| 32) ∧ (c ||| 32) ≤ 122)
theorem letter_eq (c : Nat) (hc : c < 256) : literal_letter.f (c : Int) = some (isL c) := by
  have ho : Go.bits .or .u8 (c : Int) 32 = ((c ||| 32 : Nat) : Int) := u8_or_nat c 32 hc (by decide)
  unfold literal_letter.f literal_digit.f isL
  rw [ho]
  generalize c ||| 32 = d
  by_cases h1 : 48 ≤ c
  · rw [if_pos (show (c : Int) ≥ 48 by omega), Option.bind_some]
    by_cases h2 : c ≤ 57
    · rw [decide_eq_true (show (c : Int) ≤ 57 by omega), if_pos rfl, decide_eq_true (⟨h1, h2⟩ : 48 ≤ c ∧ c ≤ 57)]; rfl
    · rw [decide_eq_false (show ¬ (c : Int) ≤ 57 by omega), if_neg (by decide), decide_eq_false (fun h : 48 ≤ c ∧ c ≤ 57 => h2 h.2)]
      by_cases h3 : c = 95
      · rw [if_pos (by omega), decide_eq_true h3]; rfl
      · rw [if_neg (by omega), decide_eq_false h3]
        by_cases h4 : 97 ≤ d
        · rw [if_pos (by omega)]
          by_cases h5 : d ≤ 122
          · rw [decide_eq_true (show (d : Int) ≤ 122 by omega), decide_eq_true (⟨h4, h5⟩ : 97 ≤ d ∧ d ≤ 122)]; rfl
          · rw [decide_eq_false (show ¬ (d : Int) ≤ 122 by omega), decide_eq_false (fun h : 97 ≤ d ∧ d ≤ 122 => h5 h.2)]; rfl
        · rw [if_neg (by omega), decide_eq_false (fun h : 97 ≤ d ∧ d ≤ 122 => h4 h.1)]; rfl
  · rw [if_neg (show ¬ (c : Int) ≥ 48 by omega), Option.bind_some, if_neg (by decide), decide_eq_false (fun h : 48 ≤ c ∧ c ≤ 57 => h1 h.1)]
    rw [if_neg (by omega), decide_eq_false (show ¬ c = 95 by omega)]
    by_cases h4 : 97 ≤ d
    · rw [if_pos (by omega)]
      by_cases h5 : d ≤ 122
      · rw [decide_eq_true (show (d : Int) ≤ 122 by omega), decide_eq_true (⟨h4, h5⟩ : 97 ≤ d ∧ d ≤ 122)]; rfl
      · rw [decide_eq_false (show ¬ (d : Int) ≤ 122 by omega), decide_eq_false (fun h : 97 ≤ d ∧ d ≤ 122 => h5 h.2)]; rfl
    · rw [if_neg (by omega), decide_eq_false (fun h : 97 ≤ d ∧ d ≤ 122 => h4 h.1)]; rfl
theorem at_lt (l : List UInt8) (i : Nat) : at_ l i < 256 := by unfold at_; exact UInt8.toNat_lt _
theorem w64 {x : Int} (h0 : 0 ≤ x) (h1 : x < 9223372036854775808) : wrap64 x = x := by unfold wrap64; omega
theorem cut_word (a w b : List UInt8) : (B (a ++ (w ++ b))).extract a.length (a.length + w.length) = B w := by
  rw [← B_list (ByteArray.extract _ _ _)]
  congr 1
  simp [B, ByteArray.data_extract]
/-- What Scan tells of a word that it reads. -/
def scanned (e : Int) (r : Int × Int × Int) : Int × Int × Int × Int := if r.2.1 = 0 then (r.1, e, 0, 0) else (0, 0, r.2.1, r.2.2)
theorem scan_end (s w : ByteArray) (p : Nat) (e : Nat) (hpe : p < e) (hes : e ≤ s.size) (hs : s.size ≤ 140737488351232) (hw : s.extract p e = w) (hwz : w.size = e - p) :
    (if 0 ≤ (p : Int) then (if (p : Int) ≤ (e : Int) then (if (e : Int) ≤ (s.size : Int) then ((literal_word.f (s.extract ((p : Int) : Int).toNat ((e : Int) : Int).toNat) (p : Int)).bind fun bt110 => (if bt110.2.1 = 0 then (some (bt110.1, (e : Int), (0 : Int), (0 : Int))) else (some (0, 0, bt110.2.1, bt110.2.2)))) else (none)) else (none)) else (none)) = some (scanned e (wordW w p)) := by
  rw [if_pos (by omega), if_pos (by omega), if_pos (by omega), Int.toNat_natCast, Int.toNat_natCast, hw]
  unfold literal_word.f
  rw [if_pos (show InW w (p : Int) from ⟨by omega, by omega, by omega, by omega⟩), Option.bind_some]
  unfold scanned
  split <;> rfl
theorem scan_loop (a w b : List UInt8) (hw : ∀ c ∈ w, isL c.toNat = true) (hw0 : w ≠ []) (hb : ∀ c r, b = c :: r → isL c.toNat = false) (hs : a.length + (w.length + b.length) ≤ 140737488351232) : ∀ (d i k : Nat), i ≤ w.length → w.length - i = d → d < k →
    literal_Scan.l0 k (B (a ++ (w ++ b))) (a.length : Int) ((a.length + i : Nat) : Int) = some (scanned ((a.length + w.length : Nat) : Int) (wordW (B w) (a.length : Int))) := by
  have hsz : (B (a ++ (w ++ b))).size = a.length + (w.length + b.length) := by rw [B_size]; simp
  have hwl : 0 < w.length := List.length_pos_iff.2 hw0
  have hend := scan_end (B (a ++ (w ++ b))) (B w) a.length (a.length + w.length) (by omega) (by omega) (by omega) (cut_word a w b) (by rw [B_size]; omega)
  intro d
  induction d with
  | zero =>
    intro i k hi hd hk
    obtain ⟨k, rfl⟩ : ∃ m, k = m + 1 := ⟨k - 1, by omega⟩
    obtain rfl : i = w.length := by omega
    simp only [literal_Scan.l0]
    cases b with
    | nil =>
      rw [if_neg (by simp only [List.length_nil] at hsz; omega)]
      exact hend
    | cons c r =>
      have hat : at_ (a ++ (w ++ c :: r)) (a.length + w.length) = c.toNat := by
        unfold at_
        rw [List.getElem?_append_right (by omega), List.getElem?_append_right (by omega)]
        simp
      rw [if_pos (by simp only [List.length_cons] at hsz; omega), if_pos (by omega), bt_B, hat, letter_eq _ (UInt8.toNat_lt _), hb c r rfl, Option.bind_some, if_neg (by decide)]
      exact hend
  | succ d ih =>
    intro i k hi hd hk
    obtain ⟨k, rfl⟩ : ∃ m, k = m + 1 := ⟨k - 1, by omega⟩
    have hlt : i < w.length := by omega
    have hat : at_ (a ++ (w ++ b)) (a.length + i) = w[i].toNat := by
      unfold at_
      rw [List.getElem?_append_right (by omega), show a.length + i - a.length = i by omega, List.getElem?_append_left hlt, List.getElem?_eq_getElem hlt]
      rfl
    simp only [literal_Scan.l0]
    rw [if_pos (by omega), if_pos (by omega), bt_B, hat, letter_eq _ (UInt8.toNat_lt _), hw _ (List.getElem_mem hlt), Option.bind_some, if_pos rfl, show wrap64 (((a.length + i : Nat) : Int) + 1) = ((a.length + (i + 1) : Nat) : Int) by rw [w64 (by omega) (by omega)]; omega]
    exact ih (i + 1) k (by omega) (by omega) (by omega)
/-- Scan, at a word that begins with a digit. -/
theorem scan_word (a w b : List UInt8) (hw : ∀ c ∈ w, isL c.toNat = true) (c0 : UInt8) (t : List UInt8) (hw0 : w = c0 :: t) (hd1 : 48 ≤ c0.toNat) (hd2 : c0.toNat ≤ 57) (hb : ∀ c r, b = c :: r → isL c.toNat = false) (hs : a.length + (w.length + b.length) ≤ 140737488351232) (k : Nat) (hk : w.length + 2 ≤ k) :
    literal_Scan.f k (B (a ++ (w ++ b))) (a.length : Int) = some (scanned ((a.length + w.length : Nat) : Int) (wordW (B w) (a.length : Int))) := by
  obtain ⟨k, rfl⟩ : ∃ m, k = m + 1 := ⟨k - 1, by omega⟩
  have hne : w ≠ [] := by rw [hw0]; simp
  have hsz : (B (a ++ (w ++ b))).size = a.length + (w.length + b.length) := by rw [B_size]; simp
  have hwl : 0 < w.length := List.length_pos_iff.2 hne
  have hat : at_ (a ++ (w ++ b)) a.length = c0.toNat := by
    unfold at_
    rw [List.getElem?_append_right (by omega), hw0]
    simp
  have hloop := scan_loop a w b hw hne hb hs w.length 0 k (by omega) (by omega) (by omega)
  rw [Nat.add_zero] at hloop
  unfold literal_Scan.f
  rw [if_neg (by omega), if_pos (by omega), if_pos (by omega), bt_B, hat, show (((c0.toNat : Nat) : Int) == 39) = false from beq_eq_false_iff_ne.2 (by omega)]
  simp only [literal_Scan.j0]
  rw [if_neg (by decide), if_neg (by omega), if_pos (by omega), if_pos (by omega), bt_B, hat]
  unfold literal_digit.f
  rw [if_pos (by omega), Option.bind_some, decide_eq_true (show ((c0.toNat : Nat) : Int) ≤ 57 by omega), if_pos rfl]
  exact hloop
theorem strOfNums_B (l : List UInt8) : strOfNums (l.map fun c => ((c.toNat : Nat) : Int)) = B l := by
  unfold strOfNums B
  congr 1
  rw [List.map_map]
  congr 1
  conv => rhs; rw [← List.map_id l]
  apply List.map_congr_left
  intro c _
  simp
theorem cap_int (c : UInt8) (h1 : 97 ≤ c.toNat) (h2 : c.toNat ≤ 122) : (((c.toNat : Nat) : Int) - 32) % 256 = (((cap c).toNat : Nat) : Int) := by
  have : (cap c).toNat = c.toNat - 32 := by
    unfold cap
    rw [if_pos ⟨h1, h2⟩, UInt8.toNat_ofNat_of_lt' (by have := c.toNat_lt; simp [UInt8.size]; omega)]
  rw [this]; omega
theorem cap_id (c : UInt8) (h : ¬ (97 ≤ c.toNat ∧ c.toNat ≤ 122)) : cap c = c := by unfold cap; rw [if_neg h]
theorem isL_cap : ∀ c : UInt8, isL c.toNat = true → isL (cap c).toNat = true := by
  have h : ∀ n : _root_.Fin 256, isL (UInt8.ofNat n.val).toNat = true → isL (cap (UInt8.ofNat n.val)).toNat = true := by decide +kernel
  intro c
  have := h ⟨c.toNat, c.toNat_lt⟩
  simpa using this
theorem is_word (w : List UInt8) (hw : ∀ c ∈ w, isL c.toNat = true) (c0 : UInt8) (t : List UInt8) (hw0 : w = c0 :: t) (hd1 : 48 ≤ c0.toNat) (hd2 : c0.toNat ≤ 57) (hs : w.length ≤ 1000) (u : Nat) (h : Reads w u) (k : Nat) (hk : w.length + 2 ≤ k) :
    linotypelaw02_is.f k (B w) (toI u) = some true := by
  have hl : 1 ≤ w.length := by rw [hw0]; simp
  have := scan_word [] w [] hw c0 t hw0 hd1 hd2 (fun _ _ h => by cases h) (by simp; omega) k hk
  simp only [List.nil_append, List.append_nil, List.length_nil, Nat.zero_add] at this
  rw [word_of_reads hl h] at this
  unfold linotypelaw02_is.f
  rw [show ((0 : Nat) : Int) = 0 from rfl] at this
  rw [this, Option.bind_some, B_size]
  simp [scanned]
/-- The law's loop: the capitals and the bare text, gathered. -/
theorem gather (w b : List UInt8) (u : Nat) (hw : ∀ c ∈ w, isL c.toNat = true) (c0 : UInt8) (t : List UInt8) (hw0 : w = c0 :: t) (hd1 : 48 ≤ c0.toNat) (hd2 : c0.toNat ≤ 57) (hs : w.length ≤ 100) (h : Reads w u) : ∀ (d i k : Nat), i ≤ w.length → w.length - i = d → 2 * d + 200 ≤ k →
    linotypelaw02_LiteralSpelled.l0 k (B (w ++ b)) true (toI u) (w.length : Int) (((w.take i).map cap).map fun c => ((c.toNat : Nat) : Int)) ((bare (w.take i)).map fun c => ((c.toNat : Nat) : Int)) (i : Int) = some true := by
  have hne : w ≠ [] := by rw [hw0]; simp
  intro d
  induction d with
  | zero =>
    intro i k hi hd hk
    obtain ⟨k, rfl⟩ : ∃ m, k = m + 1 := ⟨k - 1, by omega⟩
    obtain rfl : i = w.length := by omega
    have hbl : (bare w).length ≤ w.length := List.length_filter_le _ _
    have hb0 : bare w = c0 :: bare t := by
      unfold bare
      rw [hw0, List.filter_cons, if_pos (by simp; omega)]
    have h1 := is_word (w.map cap) (fun c hc => by
      obtain ⟨x, hx, rfl⟩ := List.mem_map.1 hc
      exact isL_cap x (hw x hx)) c0 (t.map cap) (by rw [hw0, List.map_cons, (cap_facts c0).2.2.2.2 hd1 hd2]) hd1 hd2 (by simp; omega) u (reads_cap (by rw [hw0]; simp) h) k (by simp; omega)
    have h2 := is_word (bare w) (fun c hc => hw c (List.mem_filter.1 hc).1) c0 (bare t) hb0 hd1 hd2 (by omega) u (reads_bare hne h) k (by omega)
    simp only [linotypelaw02_LiteralSpelled.l0]
    rw [if_neg (by omega), List.take_length, strOfNums_B, strOfNums_B, h1, h2]
    simp
  | succ d ih =>
    intro i k hi hd hk
    obtain ⟨k, rfl⟩ : ∃ m, k = m + 2 := ⟨k - 2, by omega⟩
    have hlt : i < w.length := by omega
    have hsz : (B (w ++ b)).size = w.length + b.length := by rw [B_size]; simp
    have hat : at_ (w ++ b) i = w[i].toNat := by
      unfold at_
      rw [List.getElem?_append_left hlt, List.getElem?_eq_getElem hlt]
      rfl
    have hbl : (bare (w.take i)).length ≤ 100 := by
      have := List.length_filter_le (fun c : UInt8 => c.toNat != 95) (w.take i)
      have h3 := List.length_take_le i w
      unfold bare
      omega
    have htk : w.take (i + 1) = w.take i ++ [w[i]] := List.take_succ_eq_append_getElem hlt
    have HN : Aside0 (wrap64 ((i : Int) + 1) = ((i + 1 : Nat) : Int)) := ⟨by rw [w64 (by omega) (by omega)]; omega⟩
    have hI := ih (i + 1) k (by omega) (by omega) (by omega)
    rw [htk, List.map_append, List.map_append] at hI
    have hbare : bare (w.take i ++ [w[i]]) = bare (w.take i) ++ (if w[i].toNat = 95 then [] else [w[i]]) := by
      unfold bare
      rw [List.filter_append]
      congr 1
      by_cases c : w[i].toNat = 95 <;> simp [c]
    rw [hbare, List.map_append] at hI
    simp only [List.map_cons, List.map_nil] at hI
    simp only [linotypelaw02_LiteralSpelled.l0]
    rw [if_pos (by omega), if_pos (by omega), if_pos (by omega), bt_B, hat]
    have hlen : (List.map (fun c : UInt8 => ((c.toNat : Nat) : Int)) (List.map cap (List.take i w))).length < 140737488355328 := by simp; omega
    have hlen2 : (List.map (fun c : UInt8 => ((c.toNat : Nat) : Int)) (bare (w.take i))).length < 140737488355328 := by rw [List.length_map]; omega
    by_cases c1 : 97 ≤ w[i].toNat ∧ w[i].toNat ≤ 122
    · rw [if_pos (by omega), decide_eq_true (show ((w[i].toNat : Nat) : Int) ≤ 122 by omega)]
      simp only [linotypelaw02_LiteralSpelled.j3, if_true]
      rw [if_pos hlen, Option.bind_some, if_neg (by omega), if_pos (by omega), if_pos (by omega), if_pos hlen2, HN.out, bt_B, hat, cap_int _ c1.1 c1.2]
      rw [if_neg (by omega)] at hI
      exact hI
    · have hj : (if ((w[i].toNat : Nat) : Int) ≥ 97 then (linotypelaw02_LiteralSpelled.j3 (k + 1) (B (w ++ b)) true (toI u) (w.length : Int) (((w.take i).map cap).map fun c => ((c.toNat : Nat) : Int)) ((bare (w.take i)).map fun c => ((c.toNat : Nat) : Int)) (i : Int) ((w[i].toNat : Nat) : Int) (decide (((w[i].toNat : Nat) : Int) ≤ 122))) else (linotypelaw02_LiteralSpelled.j3 (k + 1) (B (w ++ b)) true (toI u) (w.length : Int) (((w.take i).map cap).map fun c => ((c.toNat : Nat) : Int)) ((bare (w.take i)).map fun c => ((c.toNat : Nat) : Int)) (i : Int) ((w[i].toNat : Nat) : Int) false)) = linotypelaw02_LiteralSpelled.j3 (k + 1) (B (w ++ b)) true (toI u) (w.length : Int) (((w.take i).map cap).map fun c => ((c.toNat : Nat) : Int)) ((bare (w.take i)).map fun c => ((c.toNat : Nat) : Int)) (i : Int) ((w[i].toNat : Nat) : Int) false := by
        by_cases c2 : ((w[i].toNat : Nat) : Int) ≥ 97
        · rw [if_pos c2, decide_eq_false (show ¬ ((w[i].toNat : Nat) : Int) ≤ 122 by omega)]
        · rw [if_neg c2]
      rw [hj]
      simp only [linotypelaw02_LiteralSpelled.j3]
      rw [cap_id _ c1] at hI
      rw [if_neg (by decide), if_pos hlen, Option.bind_some]
      by_cases c3 : w[i].toNat = 95
      · rw [if_pos (by omega), HN.out]
        rw [if_pos c3, List.map_nil, List.append_nil] at hI
        exact hI
      · rw [if_neg (by omega), if_pos (by omega), if_pos (by omega), if_pos hlen2, HN.out, bt_B, hat]
        rw [if_neg c3] at hI
        exact hI
theorem first_part (l : List UInt8) (p : UInt8 → Bool) : ∃ w b, l = w ++ b ∧ (∀ c ∈ w, p c = true) ∧ (∀ c r, b = c :: r → p c = false) := by
  refine ⟨l.takeWhile p, l.dropWhile p, (List.takeWhile_append_dropWhile).symm, fun c hc => ?_, fun c r h => ?_⟩
  · exact List.all_eq_true.1 (List.all_takeWhile (p := p) (l := l)) c hc
  · have := List.head?_dropWhile_not p l
    rw [h] at this
    simpa using this
theorem main (l : List UInt8) (hl : l.length ≤ 100) (c0 : UInt8) (t : List UInt8) (hl0 : l = c0 :: t) (hd1 : 48 ≤ c0.toNat) (hd2 : c0.toNat ≤ 57) (k : Nat) (hk : 600 ≤ k) : linotypelaw02_LiteralSpelled.j0 (k + 1 + 1) (B l) true false = some true := by
  obtain ⟨w, b, rfl, hw, hb⟩ := first_part l (fun c => isL c.toNat)
  have hc0 : isL c0.toNat = true := by
    unfold isL
    rw [decide_eq_true (⟨hd1, hd2⟩ : 48 ≤ c0.toNat ∧ c0.toNat ≤ 57)]; rfl
  obtain ⟨t', hw0⟩ : ∃ t', w = c0 :: t' := by
    cases w with
    | nil =>
      have := hb c0 t (by simpa using hl0)
      rw [hc0] at this; cases this
    | cons x w =>
      simp only [List.cons_append, List.cons.injEq] at hl0
      exact ⟨w, by rw [hl0.1]⟩
  have hne : w ≠ [] := by rw [hw0]; simp
  have hwl : 0 < w.length := List.length_pos_iff.2 hne
  simp only [List.length_append] at hl
  have hsz : (B (w ++ b)).size = w.length + b.length := by rw [B_size]; simp
  have hsc := scan_word [] w b hw c0 t' hw0 hd1 hd2 hb (by simp; omega) (k + 1) (by omega)
  simp only [List.nil_append, List.length_nil, Nat.zero_add] at hsc
  rw [show ((0 : Nat) : Int) = 0 from rfl] at hsc
  simp only [linotypelaw02_LiteralSpelled.j0]
  rw [if_neg (by decide), hsc, Option.bind_some]
  by_cases c : (wordW (B w) 0).2.1 = 0
  · obtain ⟨u, hu, he⟩ := reads_of_word (by omega) 0 c
    unfold scanned
    rw [he, if_pos rfl]
    dsimp only
    rw [if_pos rfl, if_neg (by omega), decide_eq_false (show ¬ ((w.length : Nat) : Int) > ((B (w ++ b)).size : Int) by omega)]
    simp only [linotypelaw02_LiteralSpelled.j1]
    rw [if_neg (by decide)]
    have := gather w b u hw c0 t' hw0 hd1 hd2 (by omega) hu w.length 0 k (by omega) (by omega) (by omega)
    simpa [bare] using this
  · have hf := word_fault (l := w) (by omega) 0 c
    unfold scanned
    rw [if_neg c]
    dsimp only
    rw [if_neg c]
    simp only [if_true]
    rw [if_pos (by omega), decide_eq_true (show (wordW (B w) 0).2.2 ≤ ((B (w ++ b)).size : Int) by omega)]
end LSp
open LSp in
theorem LiteralSpelled : linotypelaw02_LiteralSpelled.Pure := by
  intro s hs
  obtain ⟨k, hk⟩ : ∃ k, 600 ≤ k := ⟨600, Nat.le_refl _⟩
  refine ⟨k + 1 + 1, ?_⟩
  obtain ⟨l, rfl⟩ : ∃ l, s = B l := ⟨_, (B_list s).symm⟩
  have hsz := B_size l
  unfold linotypelaw02_LiteralSpelled.f
  simp only [linotypelaw02_awake.f, Option.bind_some]
  have hj : linotypelaw02_LiteralSpelled.j0 (k + 1 + 1) (B l) true true = some true := by simp [linotypelaw02_LiteralSpelled.j0]
  by_cases c1 : ((B l).size : Int) = 0
  · rw [if_pos c1]; exact hj
  · rw [if_neg c1]
    by_cases c2 : ((B l).size : Int) > 100
    · rw [if_pos c2]; exact hj
    · rw [if_neg c2, if_pos (by omega), show (0 : Int) = ((0 : Nat) : Int) from rfl, bt_B]
      cases l with
      | nil => exact absurd (by rw [hsz]; rfl) c1
      | cons c0 t =>
        have hat : at_ (c0 :: t) 0 = c0.toNat := rfl
        rw [hat]
        by_cases c3 : ((c0.toNat : Nat) : Int) < 48
        · rw [if_pos c3]; exact hj
        · rw [if_neg c3]
          by_cases c4 : ((c0.toNat : Nat) : Int) > 57
          · rw [decide_eq_true c4]; exact hj
          · rw [decide_eq_false c4]
            exact main (c0 :: t) (by omega) c0 t rfl (by omega) (by omega) k hk
end Go.Proofs.YtdndcigppbhhdaaDoor.Pure
