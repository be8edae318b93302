/-
  LiteralBack, the plain law: what is told of a number is read as it, wherever it stands, with whatever that is no word character behind it; of what the machine's side computes (the printed functions), for every number, text and byte.
-/
import Derived.Test.YtdndcigppbhhdaaDoorQLiteralBackx3
import Derived.Test.YtdndcigppbhhdaaDoorMLitW
import Derived.Laws.BitsAllLaws
namespace Go.Proofs.YtdndcigppbhhdaaDoor.Pure
open Go.RowKit Go.Proofs.YtdndcigppbhhdaaDoor.QLiteralBack Go.Proofs.YtdndcigppbhhdaaDoorW.PrintWords Go.Proofs.YtdndcigppbhhdaaDoorW.PrintLast Go.Proofs.YtdndcigppbhhdaaDoorW.PrintMore Go.Proofs.YtdndcigppbhhdaaDoorMNum Go.Proofs.YtdndcigppbhhdaaDoorMWord Go.Proofs.YtdndcigppbhhdaaDoorMLitW
namespace LBk
theorem bt_B (l : List UInt8) (i : Nat) : bt (B l) (i : Int) = ((at_ l i : Nat) : Int) := by
  unfold bt at_
  simp only [Int.toNat_natCast]
  split
  · rename_i h
    have h' : i < l.length := by simpa [B_size] using h
    rw [List.getElem?_eq_getElem h']
    rfl
  · rename_i h
    have h' : ¬ i < l.length := by simpa [B_size] using h
    rw [List.getElem?_eq_none (by omega)]
    rfl
/-- Is a byte a word character? -/
def isL (c : Nat) : Bool := decide (48 ≤ c ∧ c ≤ 57) || decide (c = 95) || decide (97 ≤ (c ||| 32) ∧ (c ||| 32) ≤ 122)
theorem letter_eq (c : Nat) (hc : c < 256) : literal_letter.f (c : Int) = some (isL c) := by
  have ho : Go.bits .or .u8 (c : Int) 32 = ((c ||| 32 : Nat) : Int) := u8_or_nat c 32 hc (by decide)
  unfold literal_letter.f literal_digit.f isL
  rw [ho]
  generalize c ||| 32 = d
  by_cases h1 : 48 ≤ c
  · rw [if_pos (show (c : Int) ≥ 48 by omega), Option.bind_some]
    by_cases h2 : c ≤ 57
    · rw [decide_eq_true (show (c : Int) ≤ 57 by omega), if_pos rfl, decide_eq_true (⟨h1, h2⟩ : 48 ≤ c ∧ c ≤ 57)]; rfl
    · rw [decide_eq_false (show ¬ (c : Int) ≤ 57 by omega), if_neg (by decide), decide_eq_false (fun h : 48 ≤ c ∧ c ≤ 57 => h2 h.2)]
      by_cases h3 : c = 95
      · rw [if_pos (by omega), decide_eq_true h3]; rfl
      · rw [if_neg (by omega), decide_eq_false h3]
        by_cases h4 : 97 ≤ d
        · rw [if_pos (by omega)]
          by_cases h5 : d ≤ 122
          · rw [decide_eq_true (show (d : Int) ≤ 122 by omega), decide_eq_true (⟨h4, h5⟩ : 97 ≤ d ∧ d ≤ 122)]; rfl
          · rw [decide_eq_false (show ¬ (d : Int) ≤ 122 by omega), decide_eq_false (fun h : 97 ≤ d ∧ d ≤ 122 => h5 h.2)]; rfl
        · rw [if_neg (by omega), decide_eq_false (fun h : 97 ≤ d ∧ d ≤ 122 => h4 h.1)]; rfl
  · rw [if_neg (show ¬ (c : Int) ≥ 48 by omega), Option.bind_some, if_neg (by decide), decide_eq_false (fun h : 48 ≤ c ∧ c ≤ 57 => h1 h.1)]
    rw [if_neg (by omega), decide_eq_false (show ¬ c = 95 by omega)]
    by_cases h4 : 97 ≤ d
    · rw [if_pos (by omega)]
      by_cases h5 : d ≤ 122
      · rw [decide_eq_true (show (d : Int) ≤ 122 by omega), decide_eq_true (⟨h4, h5⟩ : 97 ≤ d ∧ d ≤ 122)]; rfl
      · rw [decide_eq_false (show ¬ (d : Int) ≤ 122 by omega), decide_eq_false (fun h : 97 ≤ d ∧ d ≤ 122 => h5 h.2)]; rfl
    · rw [if_neg (by omega), decide_eq_false (fun h : 97 ≤ d ∧ d ≤ 122 => h4 h.1)]; rfl
theorem at_lt (l : List UInt8) (i : Nat) : at_ l i < 256 := by unfold at_; exact UInt8.toNat_lt _
theorem w64 {x : Int} (h0 : 0 ≤ x) (h1 : x < 9223372036854775808) : wrap64 x = x := by unfold wrap64; omega
theorem cut_word (a w b : List UInt8) : (B (a ++ (w ++ b))).extract a.length (a.length + w.length) = B w := by
  rw [← B_list (ByteArray.extract _ _ _)]
  congr 1
  simp [B, ByteArray.data_extract]
/-- What Scan tells of a word that it reads. -/
def scanned (e : Int) (r : Int × Int × Int) : Int × Int × Int × Int := if r.2.1 = 0 then (r.1, e, 0, 0) else (0, 0, r.2.1, r.2.2)
theorem scan_end (s w : ByteArray) (p : Nat) (e : Nat) (hpe : p < e) (hes : e ≤ s.size) (hs : s.size ≤ 140737488351232) (hw : s.extract p e = w) (hwz : w.size = e - p) :
    (if 0 ≤ (p : Int) then (if (p : Int) ≤ (e : Int) then (if (e : Int) ≤ (s.size : Int) then ((literal_word.f (s.extract ((p : Int) : Int).toNat ((e : Int) : Int).toNat) (p : Int)).bind fun bt110 => (if bt110.2.1 = 0 then (some (bt110.1, (e : Int), (0 : Int), (0 : Int))) else (some (0, 0, bt110.2.1, bt110.2.2)))) else (none)) else (none)) else (none)) = some (scanned e (wordW w p)) := by
  rw [if_pos (by omega), if_pos (by omega), if_pos (by omega), Int.toNat_natCast, Int.toNat_natCast, hw]
  unfold literal_word.f
  rw [if_pos (show InW w (p : Int) from ⟨by omega, by omega, by omega, by omega⟩), Option.bind_some]
  unfold scanned
  split <;> rfl
theorem scan_loop (a w b : List UInt8) (hw : ∀ c ∈ w, isL c.toNat = true) (hw0 : w ≠ []) (hb : ∀ c r, b = c :: r → isL c.toNat = false) (hs : a.length + (w.length + b.length) ≤ 140737488351232) : ∀ (d i k : Nat), i ≤ w.length → w.length - i = d → d < k →
    literal_Scan.l0 k (B (a ++ (w ++ b))) (a.length : Int) ((a.length + i : Nat) : Int) = some (scanned ((a.length + w.length : Nat) : Int) (wordW (B w) (a.length : Int))) := by
  have hsz : (B (a ++ (w ++ b))).size = a.length + (w.length + b.length) := by rw [B_size]; simp
  have hwl : 0 < w.length := List.length_pos_iff.2 hw0
  have hend := scan_end (B (a ++ (w ++ b))) (B w) a.length (a.length + w.length) (by omega) (by omega) (by omega) (cut_word a w b) (by rw [B_size]; omega)
  intro d
  induction d with
  | zero =>
    intro i k hi hd hk
    obtain ⟨k, rfl⟩ : ∃ m, k = m + 1 := ⟨k - 1, by omega⟩
    obtain rfl : i = w.length := by omega
    simp only [literal_Scan.l0]
    cases b with
    | nil =>
      rw [if_neg (by simp only [List.length_nil] at hsz; omega)]
      exact hend
    | cons c r =>
      have hat : at_ (a ++ (w ++ c :: r)) (a.length + w.length) = c.toNat := by
        unfold at_
        rw [List.getElem?_append_right (by omega), List.getElem?_append_right (by omega)]
        simp
      rw [if_pos (by simp only [List.length_cons] at hsz; omega), if_pos (by omega), bt_B, hat, letter_eq _ (UInt8.toNat_lt _), hb c r rfl, Option.bind_some, if_neg (by decide)]
      exact hend
  | succ d ih =>
    intro i k hi hd hk
    obtain ⟨k, rfl⟩ : ∃ m, k = m + 1 := ⟨k - 1, by omega⟩
    have hlt : i < w.length := by omega
    have hat : at_ (a ++ (w ++ b)) (a.length + i) = w[i].toNat := by
      unfold at_
      rw [List.getElem?_append_right (by omega), show a.length + i - a.length = i by omega, List.getElem?_append_left hlt, List.getElem?_eq_getElem hlt]
      rfl
    simp only [literal_Scan.l0]
    rw [if_pos (by omega), if_pos (by omega), bt_B, hat, letter_eq _ (UInt8.toNat_lt _), hw _ (List.getElem_mem hlt), Option.bind_some, if_pos rfl, show wrap64 (((a.length + i : Nat) : Int) + 1) = ((a.length + (i + 1) : Nat) : Int) by rw [w64 (by omega) (by omega)]; omega]
    exact ih (i + 1) k (by omega) (by omega) (by omega)
/-- Scan, at a word that begins with a digit. -/
theorem scan_word (a w b : List UInt8) (hw : ∀ c ∈ w, isL c.toNat = true) (c0 : UInt8) (t : List UInt8) (hw0 : w = c0 :: t) (hd1 : 48 ≤ c0.toNat) (hd2 : c0.toNat ≤ 57) (hb : ∀ c r, b = c :: r → isL c.toNat = false) (hs : a.length + (w.length + b.length) ≤ 140737488351232) (k : Nat) (hk : w.length + 2 ≤ k) :
    literal_Scan.f k (B (a ++ (w ++ b))) (a.length : Int) = some (scanned ((a.length + w.length : Nat) : Int) (wordW (B w) (a.length : Int))) := by
  obtain ⟨k, rfl⟩ : ∃ m, k = m + 1 := ⟨k - 1, by omega⟩
  have hne : w ≠ [] := by rw [hw0]; simp
  have hsz : (B (a ++ (w ++ b))).size = a.length + (w.length + b.length) := by rw [B_size]; simp
  have hwl : 0 < w.length := List.length_pos_iff.2 hne
  have hat : at_ (a ++ (w ++ b)) a.length = c0.toNat := by
    unfold at_
    rw [List.getElem?_append_right (by omega), hw0]
    simp
  have hloop := scan_loop a w b hw hne hb hs w.length 0 k (by omega) (by omega) (by omega)
  rw [Nat.add_zero] at hloop
  unfold literal_Scan.f
  rw [if_neg (by omega), if_pos (by omega), if_pos (by omega), bt_B, hat, show (((c0.toNat : Nat) : Int) == 39) = false from beq_eq_false_iff_ne.2 (by omega)]
  simp only [literal_Scan.j0]
  rw [if_neg (by decide), if_neg (by omega), if_pos (by omega), if_pos (by omega), bt_B, hat]
  unfold literal_digit.f
  rw [if_pos (by omega), Option.bind_some, decide_eq_true (show ((c0.toNat : Nat) : Int) ≤ 57 by omega), if_pos rfl]
  exact hloop
theorem dU_facts : ∀ d : Nat, d < 16 → valN (dU d).toNat = d ∧ (dU d).toNat ≠ 95 ∧ isL (dU d).toNat = true ∧ (d < 10 → 48 ≤ (dU d).toNat ∧ (dU d).toNat ≤ 57) := by
  have h : ∀ d : _root_.Fin 16, valN (dU d.val).toNat = d.val ∧ (dU d.val).toNat ≠ 95 ∧ isL (dU d.val).toNat = true ∧ (d.val < 10 → 48 ≤ (dU d.val).toNat ∧ (dU d.val).toNat ≤ 57) := by decide +kernel
  intro d hd
  exact h ⟨d, hd⟩
theorem bdig_mem (b : Nat) (hb : 0 < b) : ∀ (f u : Nat), ∀ c ∈ bdig b f u, ∃ d, d < b ∧ c = dU d
  | 0, _, c, h => by simp [bdig] at h
  | f + 1, u, c, h => by
    rw [bdig] at h
    split at h
    · rename_i hu
      exact ⟨u, hu, by simpa using h⟩
    · rcases List.mem_append.1 h with h | h
      · exact bdig_mem b hb f _ c h
      · exact ⟨u % b, Nat.mod_lt _ hb, by simpa using h⟩
theorem bdig_ne (b f u : Nat) : bdig b (f + 1) u ≠ [] := by
  rw [bdig]
  split <;> simp
theorem run_snoc (base : Nat) (c : UInt8) (hc : c.toNat ≠ 95) (hv : valN c.toNat < base) : ∀ (l : List UInt8) (prev n : Nat) (o : Bool) (m : Nat) (o' : Bool), (∀ x ∈ l, x.toNat ≠ 95) → run base prev l n o = some (m, o') →
    run base prev (l ++ [c]) n o = some ((m * base + valN c.toNat) % 18446744073709551616, o' || decide (18446744073709551616 ≤ m * base + valN c.toNat))
  | [], prev, n, o, m, o', _, h => by
    simp only [run, Option.some.injEq, Prod.mk.injEq] at h
    obtain ⟨rfl, rfl⟩ := h
    rw [List.nil_append, run, if_neg hc, if_neg (by omega), run]
  | x :: l, prev, n, o, m, o', hl, h => by
    have hx := hl x (by simp)
    rw [run, if_neg hx] at h
    rw [List.cons_append, run, if_neg hx]
    split at h
    · cases h
    · rename_i h3
      rw [if_neg h3]
      exact run_snoc base c hc hv l _ _ _ m o' (fun y hy => hl y (by simp [hy])) h
theorem run_bdig (b : Nat) (hb : 2 ≤ b) (hb2 : b ≤ 16) (prev : Nat) : ∀ (f u : Nat), u < b ^ (f + 1) → u < 18446744073709551616 → run b prev (bdig b (f + 1) u) 0 false = some (u, false)
  | 0, u, h, h2 => by
    have hu : u < b := by simpa using h
    have hd := dU_facts u (by omega)
    rw [bdig, if_pos hu, run, if_neg hd.2.1, hd.1, if_neg (by omega), run, Nat.zero_mul, Nat.zero_add, Nat.mod_eq_of_lt h2, decide_eq_false (by omega)]
    rfl
  | f + 1, u, h, h2 => by
    rw [bdig]
    by_cases c : u < b
    · have hd := dU_facts u (by omega)
      rw [if_pos c, run, if_neg hd.2.1, hd.1, if_neg (by omega), run, Nat.zero_mul, Nat.zero_add, Nat.mod_eq_of_lt h2, decide_eq_false (by omega)]
      rfl
    · have hm : u % b < b := Nat.mod_lt _ (by omega)
      have hdm : u / b * b + u % b = u := by rw [Nat.mul_comm]; exact Nat.div_add_mod u b
      have hle : u / b ≤ u := Nat.div_le_self _ _
      have hd := dU_facts (u % b) (by omega)
      have ih := run_bdig b hb hb2 prev f (u / b) (div_lt h) (by omega)
      rw [if_neg c, run_snoc b (dU (u % b)) hd.2.1 (by rw [hd.1]; exact hm) _ _ _ _ _ _ (fun x hx => by
        obtain ⟨d, hd1, rfl⟩ := bdig_mem b (by omega) _ _ x hx
        exact (dU_facts d (by omega)).2.1) ih, hd.1, hdm, Nat.mod_eq_of_lt h2, decide_eq_false (by omega)]
      rfl
def W16 (u : Nat) : List UInt8 := [48, 120] ++ bdig 16 16 u
def W10 (u : Nat) : List UInt8 := bdig 10 20 u
theorem reads16 (u : Nat) (h : u < 18446744073709551616) : Reads (W16 u) u := by
  have hne : bdig 16 16 u ≠ [] := bdig_ne 16 15 u
  have hl := List.length_pos_iff.2 hne
  have hs : shp (B (W16 u)) = (16, 2, (bdig 16 16 u).length + 2) := by
    unfold shp W16
    rw [show ([48, 120] ++ bdig 16 16 u : List UInt8) = 48 :: 120 :: bdig 16 16 u from rfl, isB_pre 48 120 _ 120 hne rfl, B_size]
    rfl
  unfold Reads Go.Proofs.YtdndcigppbhhdaaDoorMLitW.part
  rw [hs]
  refine ⟨by dsimp only; omega, ?_⟩
  unfold W16
  simp only [List.cons_append, List.nil_append, List.drop_succ_cons, List.drop_zero, Nat.add_sub_cancel, List.take_length]
  exact run_bdig 16 (by decide) (by decide) 95 15 u (by simpa using h) h
theorem reads10 (u : Nat) (h : u < 18446744073709551616) : Reads (W10 u) u := by
  have hne : bdig 10 20 u ≠ [] := bdig_ne 10 19 u
  have hl := List.length_pos_iff.2 hne
  have hd : ∀ x ∈ bdig 10 20 u, valN x.toNat < 10 := fun x hx => by
    obtain ⟨d, hd, rfl⟩ := bdig_mem 10 (by decide) _ _ x hx
    rw [(dU_facts d (by omega)).1]; exact hd
  have h16 : ∀ x ∈ bdig 10 20 u, valN x.toNat < 16 := fun x hx => by have := hd x hx; omega
  have hs : shp (B (W10 u)) = (10, 0, (bdig 10 20 u).length) := by
    unfold shp W10
    rw [isB_small 120 (fun x hx => ((val_facts x).1 (h16 x hx)).2.1), isB_small 98 (fun x hx => (val_facts x).2.1 (hd x hx)), isB_small 111 (fun x hx => ((val_facts x).1 (h16 x hx)).2.2), by_B, B_size, at_last, List.getLast?_eq_some_getLast hne, Option.getD_some]
    rw [if_neg (by decide), if_neg ((val_facts _).1 (h16 _ (List.getLast_mem hne))).1, if_neg (by decide), if_neg (by decide)]
  unfold Reads Go.Proofs.YtdndcigppbhhdaaDoorMLitW.part
  rw [hs]
  refine ⟨by dsimp only; omega, ?_⟩
  unfold W10
  simp only [List.drop_zero, Nat.sub_zero, List.take_length]
  exact run_bdig 10 (by decide) (by decide) 95 19 u (Nat.lt_trans h (by decide)) h
structure Word (w : List UInt8) (u : Nat) : Prop where
  letters : ∀ c ∈ w, isL c.toNat = true
  first : ∃ c0 t, w = c0 :: t ∧ 48 ≤ c0.toNat ∧ c0.toNat ≤ 57
  short : w.length ≤ 40
  reads : Reads w u
theorem word16 (u : Nat) (h : u < 18446744073709551616) : Word (W16 u) u where
  letters c hc := by
    unfold W16 at hc
    rcases List.mem_append.1 hc with hc | hc
    · rcases List.mem_cons.1 hc with rfl | hc
      · decide
      · obtain rfl : c = 120 := by simpa using hc
        decide
    · obtain ⟨d, hd, rfl⟩ := bdig_mem 16 (by decide) _ _ c hc
      exact (dU_facts d hd).2.2.1
  first := ⟨48, 120 :: bdig 16 16 u, rfl, by decide, by decide⟩
  short := by
    have := bdig_len 16 16 u
    unfold W16
    simp only [List.length_append, List.length_cons, List.length_nil]
    omega
  reads := reads16 u h
theorem word10 (u : Nat) (h : u < 18446744073709551616) : Word (W10 u) u where
  letters c hc := by
    obtain ⟨d, hd, rfl⟩ := bdig_mem 10 (by decide) _ _ c hc
    exact (dU_facts d (by omega)).2.2.1
  first := by
    have hne : W10 u ≠ [] := bdig_ne 10 19 u
    cases hw : W10 u with
    | nil => exact absurd hw hne
    | cons c t =>
      obtain ⟨d, hd, rfl⟩ := bdig_mem 10 (by decide) 20 u c (by unfold W10 at hw; rw [hw]; simp)
      have := (dU_facts d (by omega)).2.2.2 hd
      exact ⟨_, t, rfl, this.1, this.2⟩
  short := by
    have := bdig_len 10 20 u
    unfold W10
    omega
  reads := reads10 u h
theorem strOfNums_one (x : Int) : strOfNums [x] = B [UInt8.ofNat x.toNat] := rfl
/-- Scan, at a word, a byte that is no word character behind it. -/
theorem scan_here (al : List UInt8) (ha : al.length ≤ 50) (w : List UInt8) (u : Nat) (W : Word w u) (b : UInt8) (hb : isL b.toNat = false) (k : Nat) (hk : 50 ≤ k) :
    literal_Scan.f k (B (al ++ (w ++ [b]))) (al.length : Int) = some (toI u, ((al.length + w.length : Nat) : Int), 0, 0) := by
  obtain ⟨c0, t, hw0, h1, h2⟩ := W.first
  have hs := W.short
  have := scan_word al w [b] W.letters c0 t hw0 h1 h2 (fun c r h => by
    injection h with h _
    rw [← h]; exact hb) (by simp only [List.length_cons, List.length_nil]; omega) k (by omega)
  rw [word_of_reads (by rw [hw0]; simp) W.reads] at this
  rw [this]
  simp [scanned]
theorem text_eq (al w : List UInt8) (a2 : Int) : ((B al ++ B w) ++ strOfNums [a2]) = B (al ++ (w ++ [UInt8.ofNat a2.toNat])) := by
  rw [strOfNums_one, B_append, B_append, List.append_assoc]
section
variable (n : Int) (al : List UInt8) (ha : al.length ≤ 50) (a2 : Int) (hb : isL (UInt8.ofNat a2.toNat).toNat = false) (x9 : List ByteArray) (w : List UInt8) (W : Word w n.natAbs) (i : Nat) (hi : i < x9.length) (hx : x9.length ≤ 10)
include ha hb W hi hx
theorem round_pos (hn : ¬ n < 0) (hn2 : n ≤ 9223372036854775807) (h9 : rdOf ByteArray.empty x9 (i : Int) = B w) (k : Nat) (hk : 50 ≤ k) : linotypelaw02_LiteralBack.l0 (k + 1) n (B al) a2 true x9 (i : Int) = linotypelaw02_LiteralBack.l0 k n (B al) a2 true x9 ((i + 1 : Nat) : Int) := by
  have hsc := scan_here al ha w n.natAbs W _ hb k hk
  have hws := W.short
  have hA := B_size al
  have hW := B_size w
  have hS : (strOfNums [a2]).size = 1 := rfl
  have hAW : (B al ++ B w).size = al.length + w.length := by rw [ByteArray.size_append, hA, hW]
  simp only [linotypelaw02_LiteralBack.l0]
  rw [if_pos (by omega), if_pos (by omega), if_neg hn, h9, if_pos (by omega), Option.bind_some, if_pos (by omega), text_eq al w a2, hA, hsc, Option.bind_some]
  dsimp only
  have e1 : toI n.natAbs = n := by unfold toI; rw [w64 (by omega) (by omega)]; omega
  have E2 : Aside0 (wrap64 ((al.length : Int) + ((B w).size : Int)) = ((al.length + w.length : Nat) : Int)) := ⟨by rw [w64 (by omega) (by omega)]; omega⟩
  have E3 : Aside0 (wrap64 ((i : Int) + 1) = ((i + 1 : Nat) : Int)) := ⟨by rw [w64 (by omega) (by omega)]; omega⟩
  rw [if_pos e1, E2.out, if_pos rfl, if_pos rfl, E3.out]
theorem round_neg (hn : n < 0) (hn2 : -9223372036854775808 ≤ n) (h9 : rdOf ByteArray.empty x9 (i : Int) = B (45 :: w)) (k : Nat) (hk : 50 ≤ k) : linotypelaw02_LiteralBack.l0 (k + 1 + 1) n (B al) a2 true x9 (i : Int) = linotypelaw02_LiteralBack.l0 k n (B al) a2 true x9 ((i + 1 : Nat) : Int) := by
  have hsc := scan_here al ha w n.natAbs W _ hb k hk
  have hws := W.short
  have hwl : 0 < w.length := by obtain ⟨c0, t, h, _⟩ := W.first; rw [h]; simp
  have hA := B_size al
  have hW := B_size w
  have hM : (B (45 :: w)).size = w.length + 1 := B_size _
  have hS : (strOfNums [a2]).size = 1 := rfl
  have hAW : (B al ++ B w).size = al.length + w.length := by rw [ByteArray.size_append, hA, hW]
  have hex : (B (45 :: w)).extract 1 (B (45 :: w)).size = B w := by
    rw [← B_list (ByteArray.extract _ _ _)]
    congr 1
    rw [hM]
    simp [B, ByteArray.data_extract]
  have hb0 : (bt (B (45 :: w)) 0 != 45) = false := by
    rw [show (0 : Int) = ((0 : Nat) : Int) from rfl, bt_B]
    rfl
  simp only [linotypelaw02_LiteralBack.l0]
  rw [if_pos (by omega), if_pos (by omega), if_pos hn, h9, if_neg (by omega), if_pos (by omega), hb0]
  simp only [linotypelaw02_LiteralBack.j3]
  rw [if_neg (by decide), if_pos (by omega), hex, if_pos (by omega), Option.bind_some, if_pos (by omega), text_eq al w a2, hA, hsc, Option.bind_some]
  dsimp only
  have e1 : toI n.natAbs = wrap64 (-n) := by unfold toI; rw [show ((n.natAbs : Nat) : Int) = -n by omega]
  have E2 : Aside0 (wrap64 ((al.length : Int) + ((B w).size : Int)) = ((al.length + w.length : Nat) : Int)) := ⟨by rw [w64 (by omega) (by omega)]; omega⟩
  have E3 : Aside0 (wrap64 ((i : Int) + 1) = ((i + 1 : Nat) : Int)) := ⟨by rw [w64 (by omega) (by omega)]; omega⟩
  rw [if_pos e1, E2.out, if_pos rfl, if_pos rfl, E3.out]
end
theorem main (n : Int) (h0 : -9223372036854775808 ≤ n) (h1 : n ≤ 9223372036854775807) (al : List UInt8) (ha : al.length ≤ 50) (a2 : Int) (hb : isL (UInt8.ofNat a2.toNat).toNat = false) (k : Nat) (hk : 50 ≤ k) :
    linotypelaw02_LiteralBack.l0 (k + 1 + 1 + 1 + 1 + 1) n (B al) a2 true [Go.Proofs.YtdndcigppbhhdaaDoorMHex.hexB n, B (Lib.itoa n)] 0 = some true ∨ linotypelaw02_LiteralBack.l0 (k + 1 + 1 + 1) n (B al) a2 true [Go.Proofs.YtdndcigppbhhdaaDoorMHex.hexB n, B (Lib.itoa n)] 0 = some true := by
  have hend : ∀ (x9 : List ByteArray), x9.length = 2 → ∀ k, linotypelaw02_LiteralBack.l0 (k + 1) n (B al) a2 true x9 ((1 + 1 : Nat) : Int) = some true := fun x9 h9 k => by
    simp only [linotypelaw02_LiteralBack.l0]
    rw [if_neg (by omega)]
  by_cases hn : n < 0
  · refine .inl ?_
    have r0 : rdOf ByteArray.empty [Go.Proofs.YtdndcigppbhhdaaDoorMHex.hexB n, B (Lib.itoa n)] ((0 : Nat) : Int) = B (45 :: W16 n.natAbs) := hexB_neg n hn h0
    have r1 : rdOf ByteArray.empty [Go.Proofs.YtdndcigppbhhdaaDoorMHex.hexB n, B (Lib.itoa n)] ((0 + 1 : Nat) : Int) = B (45 :: W10 n.natAbs) := congrArg B (itoa_neg n hn h0)
    rw [show (0 : Int) = ((0 : Nat) : Int) from rfl, round_neg n al ha a2 hb _ _ (word16 n.natAbs (by omega)) 0 (by simp) (by simp) hn h0 r0 (k + 1 + 1 + 1) (by omega), round_neg n al ha a2 hb _ _ (word10 n.natAbs (by omega)) (0 + 1) (by simp) (by simp) hn h0 r1 (k + 1) (by omega)]
    exact hend _ rfl k
  · refine .inr ?_
    have r0 : rdOf ByteArray.empty [Go.Proofs.YtdndcigppbhhdaaDoorMHex.hexB n, B (Lib.itoa n)] ((0 : Nat) : Int) = B (W16 n.natAbs) := hexB_nonneg n hn h1
    have r1 : rdOf ByteArray.empty [Go.Proofs.YtdndcigppbhhdaaDoorMHex.hexB n, B (Lib.itoa n)] ((0 + 1 : Nat) : Int) = B (W10 n.natAbs) := congrArg B (itoa_nonneg n hn h1)
    rw [show (0 : Int) = ((0 : Nat) : Int) from rfl, round_pos n al ha a2 hb _ _ (word16 n.natAbs (by omega)) 0 (by simp) (by simp) hn h1 r0 (k + 1 + 1) (by omega), round_pos n al ha a2 hb _ _ (word10 n.natAbs (by omega)) (0 + 1) (by simp) (by simp) hn h1 r1 (k + 1) (by omega)]
    exact hend _ rfl k
theorem isL_tests : ∀ c : UInt8, c.toNat ≠ 95 → ¬ (48 ≤ c.toNat ∧ c.toNat ≤ 57) → ¬ (97 ≤ c.toNat ∧ c.toNat ≤ 122) → ¬ (65 ≤ c.toNat ∧ c.toNat ≤ 90) → isL c.toNat = false := by
  have h : ∀ n : _root_.Fin 256, (UInt8.ofNat n.val).toNat ≠ 95 → ¬ (48 ≤ (UInt8.ofNat n.val).toNat ∧ (UInt8.ofNat n.val).toNat ≤ 57) → ¬ (97 ≤ (UInt8.ofNat n.val).toNat ∧ (UInt8.ofNat n.val).toNat ≤ 122) → ¬ (65 ≤ (UInt8.ofNat n.val).toNat ∧ (UInt8.ofNat n.val).toNat ≤ 90) → isL (UInt8.ofNat n.val).toNat = false := by decide +kernel
  intro c
  have := h ⟨c.toNat, c.toNat_lt⟩
  simpa using this
end LBk
open LBk in
theorem LiteralBack : linotypelaw02_LiteralBack.Pure := by
  intro n a1 a2 hn _ h2
  have hI : -9223372036854775808 ≤ n ∧ n ≤ 9223372036854775807 := by
    simp [Lit.wf] at hn
    have e1 : IntKind.i64.min = -9223372036854775808 := rfl
    have e2 : IntKind.i64.max = 9223372036854775807 := rfl
    exact ⟨by omega, by omega⟩
  have hB : 0 ≤ a2 ∧ a2 ≤ 255 := by
    simp [Lit.wf] at h2
    have e1 : IntKind.u8.min = 0 := rfl
    have e2 : IntKind.u8.max = 255 := rfl
    exact ⟨by omega, by omega⟩
  obtain ⟨al, rfl⟩ : ∃ l, a1 = B l := ⟨_, (B_list a1).symm⟩
  have hsz := B_size al
  obtain ⟨k, hk⟩ : ∃ k, 50 ≤ k := ⟨50, Nat.le_refl _⟩
  have hj : ∀ k, linotypelaw02_LiteralBack.j0 (k + 1 + 1) n (B al) a2 true true = some true := fun k => by
    simp only [linotypelaw02_LiteralBack.j0]
    split <;> simp only [linotypelaw02_LiteralBack.j1, if_true]
  have hu : (UInt8.ofNat a2.toNat).toNat = a2.toNat := UInt8.toNat_ofNat_of_lt' (by simp [UInt8.size]; omega)
  have hgo : a2 ≠ 95 → ¬ (48 ≤ a2 ∧ a2 ≤ 57) → ¬ (97 ≤ a2 ∧ a2 ≤ 122) → ¬ (65 ≤ a2 ∧ a2 ≤ 90) → ∃ k, linotypelaw02_LiteralBack.j0 (k + 1 + 1) n (B al) a2 true false = some true := fun g1 g2 g3 g4 => by
    by_cases c : ((B al).size : Int) > 50
    · refine ⟨k, ?_⟩
      simp only [linotypelaw02_LiteralBack.j0]
      rw [if_pos c]
      simp only [linotypelaw02_LiteralBack.j1, if_true]
    · have hb : isL (UInt8.ofNat a2.toNat).toNat = false := isL_tests _ (by omega) (by omega) (by omega) (by omega)
      have hJ : ∀ k, linotypelaw02_LiteralBack.j0 (k + 1 + 1) n (B al) a2 true false = linotypelaw02_LiteralBack.l0 k n (B al) a2 true [Go.Proofs.YtdndcigppbhhdaaDoorMHex.hexB n, B (Lib.itoa n)] 0 := fun k => by
        simp only [linotypelaw02_LiteralBack.j0]
        rw [if_neg c]
        simp only [linotypelaw02_LiteralBack.j1]
        unfold literal_Hex.f literal_Dec.f
        rw [if_neg (by decide), if_pos (show Go.Proofs.YtdndcigppbhhdaaDoorMDec.InI n from hI), if_pos (show Go.Proofs.YtdndcigppbhhdaaDoorMDec.InI n from hI)]
        rfl
      rcases main n hI.1 hI.2 al (by omega) a2 hb k hk with h | h
      · exact ⟨_, (hJ _).trans h⟩
      · exact ⟨_, (hJ _).trans h⟩
  have hred : ∀ b : Bool, (b = false → ∃ k, linotypelaw02_LiteralBack.j0 (k + 1 + 1) n (B al) a2 true false = some true) → ∃ k, linotypelaw02_LiteralBack.j0 (k + 1 + 1) n (B al) a2 true b = some true := fun b h => by
    cases b with
    | true => exact ⟨0, hj 0⟩
    | false => exact h rfl
  have key : ∃ k, linotypelaw02_LiteralBack.f (k + 1 + 1) n (B al) a2 = some true := by
    unfold linotypelaw02_LiteralBack.f
    simp only [linotypelaw02_awake.f, Option.bind_some]
    by_cases g1 : a2 = 95
    · exact ⟨0, by rw [if_pos g1]; exact hj 0⟩
    · simp only [if_neg g1]
      by_cases g2 : a2 ≥ 48
      · simp only [if_pos g2]
        by_cases g3 : a2 ≤ 57
        · exact ⟨0, by rw [if_pos g3]; exact hj 0⟩
        · simp only [if_neg g3]
          by_cases g4 : a2 ≥ 97
          · simp only [if_pos g4]
            by_cases g5 : a2 ≤ 122
            · exact ⟨0, by rw [if_pos g5]; exact hj 0⟩
            · simp only [if_neg g5]
              simp only [if_pos (show a2 ≥ 65 by omega)]
              exact hred _ (fun hf => hgo g1 (by omega) (by omega) (by have := of_decide_eq_false hf; omega))
          · simp only [if_neg g4]
            by_cases g6 : a2 ≥ 65
            · simp only [if_pos g6]
              exact hred _ (fun hf => hgo g1 (by omega) (by omega) (by have := of_decide_eq_false hf; omega))
            · simp only [if_neg g6]
              exact hgo g1 (by omega) (by omega) (by omega)
      · simp only [if_neg g2]
        simp only [if_neg (show ¬ a2 ≥ 97 by omega), if_neg (show ¬ a2 ≥ 65 by omega)]
        exact hgo g1 (by omega) (by omega) (by omega)
  obtain ⟨k, h⟩ := key
  exact ⟨_, h⟩
end Go.Proofs.YtdndcigppbhhdaaDoor.Pure
