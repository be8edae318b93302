/-
  LiteralBytes, the plain law: a text's literal is the number whose bytes are its own, the first one the lowest; of what the machine's side computes (the printed functions), for every list of bytes.
-/
import Derived.Test.YtdndcigppbhhdaaDoorQLiteralBytesx3
import Derived.Laws.BitsAllLaws
namespace Go.Proofs.YtdndcigppbhhdaaDoor.Pure
open Go.RowKit Go.Proofs.YtdndcigppbhhdaaDoor.QLiteralBytes Go.Proofs.YtdndcigppbhhdaaDoorW.PrintWords Go.Proofs.YtdndcigppbhhdaaDoorW.PrintLast Go.Proofs.YtdndcigppbhhdaaDoorW.PrintMore
namespace LB
/-- The number whose bytes these are, the first one the lowest. -/
def val : List Int → Int
  | [] => 0
  | b :: l => b + 256 * val l
def Good (l : List Int) : Prop := ∀ x ∈ l, 32 ≤ x ∧ x ≤ 126 ∧ x ≠ 39
theorem val_nonneg : ∀ {l : List Int}, Good l → 0 ≤ val l
  | [], _ => by simp [val]
  | b :: l, h => by
    have := val_nonneg (l := l) (fun x hx => h x (by simp [hx]))
    have := h b (by simp)
    simp only [val]; omega
theorem val_lt : ∀ {l : List Int}, Good l → val l < 128 * 256 ^ (l.length - 1) ∨ l = []
  | [], _ => .inr rfl
  | b :: l, h => by
    refine .inl ?_
    have h1 := h b (by simp)
    rcases val_lt (l := l) (fun x hx => h x (by simp [hx])) with h2 | rfl
    · have h0 : 0 ≤ val l := val_nonneg (fun x hx => h x (by simp [hx]))
      simp only [val, List.length_cons, Nat.add_sub_cancel]
      cases l with
      | nil => simp [val]; omega
      | cons c l =>
        simp only [List.length_cons, Nat.add_sub_cancel] at h2 ⊢
        rw [Int.pow_succ]
        omega
    · simp [val]; omega
theorem val_lt' {l : List Int} (h : Good l) : val l < 256 ^ l.length := by
  rcases val_lt h with h2 | rfl
  · cases l with
    | nil => simp [val]
    | cons c l =>
      simp only [List.length_cons, Nat.add_sub_cancel] at h2 ⊢
      rw [Int.pow_succ]
      have : (0 : Int) < 256 ^ l.length := Int.pow_pos (by decide)
      omega
  · simp [val]
theorem val_take_succ : ∀ (l : List Int) (i : Nat), i < l.length → val (l.take (i + 1)) = val (l.take i) + l.getD i 0 * 256 ^ i
  | [], i, h => by simp at h
  | b :: l, 0, _ => by simp [val]
  | b :: l, i + 1, h => by
    have := val_take_succ l i (by simpa using h)
    simp only [List.take_succ_cons, val, List.getD_cons_succ] at this ⊢
    rw [this, Int.pow_succ]
    rw [Int.mul_add, ← Int.add_assoc, Int.mul_comm (256 ^ i) 256, Int.mul_left_comm]
theorem val_div : ∀ (l : List Int) (i : Nat), Good l → i < l.length → val l / 256 ^ i % 256 = l.getD i 0
  | [], i, _, h => by simp at h
  | b :: l, 0, hg, _ => by
    have := hg b (by simp)
    simp [val]; omega
  | b :: l, i + 1, hg, h => by
    have := val_div l i (fun x hx => hg x (by simp [hx])) (by simpa using h)
    have hb := hg b (by simp)
    simp only [val, List.getD_cons_succ]
    rw [Int.pow_succ, Int.mul_comm (256 ^ i) 256, ← Int.ediv_ediv_of_nonneg (by decide), show (b + 256 * val l) / 256 = val l by omega]
    exact this

theorem or_i64 (a c i : Nat) (ha : a < 256 ^ i) (hs : a + c * 256 ^ i < 9223372036854775808) : Go.bits .or .i64 (a : Int) ((c * 256 ^ i : Nat) : Int) = ((a + c * 256 ^ i : Nat) : Int) := by
  show IntKind.i64.wrap ((BitVec.ofInt 64 (a : Int) ||| BitVec.ofInt 64 ((c * 256 ^ i : Nat) : Int)).toNat : Int) = _
  have e : a ||| c * 256 ^ i = a + c * 256 ^ i := by
    have h := Nat.shiftLeft_add_eq_or_of_lt (a := c) (i := 8 * i) (b := a) (by rw [Nat.pow_mul]; exact ha)
    rw [Nat.shiftLeft_eq, Nat.pow_mul] at h
    rw [Nat.or_comm, ← h, Nat.add_comm]
  rw [BitVec.toNat_or, ofInt_u64 a (by omega), ofInt_u64 _ (by omega), e]
  rw [i64_w]
  unfold wrap64
  omega
/-- The text: a quote, these bytes, a quote. -/
def txt (l : List Int) : ByteArray := ((⟨#[39]⟩ : ByteArray) ++ (strOfNums l)) ++ (⟨#[39]⟩ : ByteArray)
theorem txt_list (l : List Int) : (txt l).data.toList = 39 :: (l.map (fun n => UInt8.ofNat n.toNat) ++ [39]) := by
  simp [txt, strOfNums, ByteArray.data_append]
theorem txt_size (l : List Int) : (txt l).size = l.length + 2 := by
  rw [ByteArray.size, ← Array.length_toList, txt_list]; simp
theorem bt_list (s : ByteArray) (i : Nat) : bt s (i : Int) = (((s.data.toList[i]?).getD 0).toNat : Int) := by
  unfold bt
  simp only [Int.toNat_natCast]
  split
  · rename_i h
    have h' : i < s.data.toList.length := by simpa using h
    rw [List.getElem?_eq_getElem h']
    rfl
  · rename_i h
    have h' : ¬ i < s.data.toList.length := by simpa using h
    rw [List.getElem?_eq_none (by omega)]
    rfl
theorem bt_txt {l : List Int} (hg : Good l) {i : Nat} (h : i < l.length) : bt (txt l) ((i + 1 : Nat) : Int) = l.getD i 0 := by
  rw [bt_list, txt_list]
  rw [List.getElem?_cons_succ, List.getElem?_append_left (by simpa using h), List.getElem?_map, List.getElem?_eq_getElem h]
  have hb := hg l[i] (List.getElem_mem h)
  simp only [Option.map_some, Option.getD_some, List.getD_eq_getElem?_getD, List.getElem?_eq_getElem h]
  simp
  omega
theorem bt_end (l : List Int) : bt (txt l) ((l.length + 1 : Nat) : Int) = 39 := by
  rw [bt_list, txt_list, List.getElem?_cons_succ, List.getElem?_append_right (by simp)]
  simp
theorem bt_first (l : List Int) : bt (txt l) 0 = 39 := by
  rw [show (0 : Int) = ((0 : Nat) : Int) from rfl, bt_list, txt_list]; rfl
theorem w64 {x : Int} (h0 : 0 ≤ x) (h1 : x < 9223372036854775808) : wrap64 x = x := by unfold wrap64; omega

theorem pow_le8 {i : Nat} (h : i < 8) : (256 : Int) ^ i ≤ 72057594037927936 := by
  have : i = 0 ∨ i = 1 ∨ i = 2 ∨ i = 3 ∨ i = 4 ∨ i = 5 ∨ i = 6 ∨ i = 7 := by omega
  rcases this with rfl | rfl | rfl | rfl | rfl | rfl | rfl | rfl <;> decide
theorem take_good {l : List Int} (hg : Good l) (i : Nat) : Good (l.take i) := fun x hx => hg x (List.mem_of_mem_take hx)
theorem getD_good {l : List Int} (hg : Good l) {i : Nat} (h : i < l.length) : 32 ≤ l.getD i 0 ∧ l.getD i 0 ≤ 126 ∧ l.getD i 0 ≠ 39 := by
  have := hg l[i] (List.getElem_mem h)
  simpa [List.getD_eq_getElem?_getD, List.getElem?_eq_getElem h] using this
/-- One byte more. -/
theorem step_val {l : List Int} (hg : Good l) (h8 : l.length ≤ 8) {i : Nat} (h : i < l.length) :
    Go.bits .or .i64 (val (l.take i)) (shl .i64 (wrap64 (l.getD i 0)) (wrap64 (8 * (i : Int)))) = val (l.take (i + 1)) := by
  have hb := getD_good hg h
  have hp := pow_le8 (i := i) (by omega)
  have hp0 : (0 : Int) < 256 ^ i := Int.pow_pos (by decide)
  have hv := val_take_succ l i h
  have hlt : val (l.take i) < 256 ^ i := by
    have := val_lt' (take_good hg i)
    rwa [List.length_take, Nat.min_eq_left (by omega)] at this
  have h0 := val_nonneg (take_good hg i)
  have hm : l.getD i 0 * 256 ^ i ≤ 126 * 256 ^ i := Int.mul_le_mul_of_nonneg_right (by omega) (by omega)
  have hm0 : 0 ≤ l.getD i 0 * 256 ^ i := Int.mul_nonneg (by omega) (by omega)
  rw [w64 (by omega) (by omega), w64 (by omega) (by omega)]
  unfold shl
  rw [i64_w, show ((8 * (i : Int)).toNat) = 8 * i by omega, Nat.min_eq_left (by simp [IntKind.bits]; omega), Int.pow_mul, show ((2 : Int) ^ 8) = 256 from rfl, w64 hm0 (by omega)]
  obtain ⟨a, ha⟩ := Int.eq_ofNat_of_zero_le h0
  obtain ⟨c, hc⟩ := Int.eq_ofNat_of_zero_le (a := l.getD i 0) (by omega)
  rw [hv, ha, hc]
  rw [ha] at hlt
  rw [hc] at hm
  have e1 : (c : Int) * 256 ^ i = ((c * 256 ^ i : Nat) : Int) := by simp
  have h2 : (256 : Int) ^ i = ((256 ^ i : Nat) : Int) := by simp
  rw [e1] at hm ⊢
  rw [h2] at hlt hm hp
  rw [or_i64 a c i (by omega) (by omega)]
  simp
theorem text_loop {l : List Int} (hg : Good l) (h8 : l.length ≤ 8) (d : Nat) : ∀ (k i : Nat), i ≤ l.length → l.length - i = d → 3 * d + 2 ≤ k → (0 < l.length) →
    literal_text.l0 k (txt l) 0 (val (l.take i)) (i : Int) = some (val l, (l.length : Int) + 2, 0, 0) := by
  induction d with
  | zero =>
    intro k i hi hd hk hn
    obtain ⟨k, rfl⟩ : ∃ m, k = m + 2 := ⟨k - 2, by omega⟩
    obtain rfl : i = l.length := by omega
    have hs := txt_size l
    have hx : wrap64 (wrap64 (0 + 1) + (l.length : Int)) = ((l.length + 1 : Nat) : Int) := by unfold wrap64; omega
    have hb := bt_end l
    simp only [literal_text.l0]
    rw [hx, if_neg (by omega), if_pos (by omega), if_pos (by omega), if_pos hb, show ((l.length : Int) == 0) = false from beq_eq_false_iff_ne.2 (by omega)]
    simp only [literal_text.j1]
    rw [if_neg (by decide), if_pos (by omega), if_pos (by omega), if_pos hb, List.take_of_length_le (by omega)]
    have hy : wrap64 (((l.length + 1 : Nat) : Int) + 1) = (l.length : Int) + 2 := by unfold wrap64; omega
    rw [hy]
  | succ d ih =>
    intro k i hi hd hk hn
    obtain ⟨k, rfl⟩ : ∃ m, k = m + 3 := ⟨k - 3, by omega⟩
    have hlt : i < l.length := by omega
    have hs := txt_size l
    have hx : wrap64 (wrap64 (0 + 1) + (i : Int)) = ((i + 1 : Nat) : Int) := by unfold wrap64; omega
    have hb := bt_txt hg hlt
    have hq := getD_good hg hlt
    simp only [literal_text.l0]
    rw [hx, if_neg (by omega), if_pos (by omega), if_pos (by omega), if_neg (by omega)]
    simp only [literal_text.j1]
    rw [if_neg (by decide), if_pos (by omega), if_pos (by omega), if_neg (by omega), if_neg (by omega), show decide (bt (txt l) ((i + 1 : Nat) : Int) > 126) = false from decide_eq_false (by omega)]
    simp only [literal_text.j2]
    rw [if_neg (by decide), if_neg (by omega), if_pos (by omega), if_pos (by omega), if_pos (by unfold wrap64; omega), hb, step_val hg h8 hlt, show wrap64 ((i : Int) + 1) = ((i + 1 : Nat) : Int) by unfold wrap64; omega]
    exact ih k (i + 1) (by omega) (by omega) (by omega) hn
theorem scan_txt {l : List Int} (hg : Good l) (h8 : l.length ≤ 8) (hn : 0 < l.length) (k : Nat) (hk : 3 * l.length + 3 ≤ k) :
    literal_Scan.f k (txt l) 0 = some (val l, (l.length : Int) + 2, 0, 0) := by
  obtain ⟨k, rfl⟩ : ∃ m, k = m + 1 := ⟨k - 1, by omega⟩
  have hs := txt_size l
  unfold literal_Scan.f
  rw [if_neg (by omega), if_pos (by omega), if_pos (by omega), bt_first, show ((39 : Int) == 39) = true from rfl]
  simp only [literal_Scan.j0, if_true, literal_text.f]
  have := text_loop hg h8 l.length k 0 (by omega) (by omega) (by omega) hn
  simp only [List.take_zero, val, Int.ofNat_zero] at this
  rw [this]
  rfl
theorem got_loop {l : List Int} (hg : Good l) (h8 : l.length ≤ 8) (d : Nat) : ∀ (k i : Nat), i ≤ l.length → l.length - i = d → d < k → (0 < l.length) →
    linotypelaw02_LiteralBytes.l1 k l true (val l) (l.take i) (i : Int) = some true := by
  induction d with
  | zero =>
    intro k i hi hd hk hn
    obtain ⟨k, rfl⟩ : ∃ m, k = m + 1 := ⟨k - 1, by omega⟩
    obtain rfl : i = l.length := by omega
    have h0 := val_nonneg hg
    have hl := val_lt' hg
    simp only [linotypelaw02_LiteralBytes.l1]
    rw [if_neg (by omega), List.take_of_length_le (by omega)]
    simp only [linotypekit_SameBytes.f, beq_self_eq_true, Option.bind_some, if_true]
    by_cases e : (l.length : Int) = 8
    · rw [if_pos e]
    · have hw : wrap64 (8 * (l.length : Int)) = ((8 * l.length : Nat) : Int) := by unfold wrap64; omega
      rw [if_neg e, hw, if_pos (by omega)]
      have : shr .i64 (val l) ((8 * l.length : Nat) : Int) = 0 := by
        unfold shr
        rw [Int.toNat_natCast, Nat.min_eq_left (by simp [IntKind.bits]; omega), Int.pow_mul, show ((2 : Int) ^ 8) = 256 from rfl]
        exact Int.ediv_eq_zero_of_lt h0 hl
      rw [this]; rfl
  | succ d ih =>
    intro k i hi hd hk hn
    obtain ⟨k, rfl⟩ : ∃ m, k = m + 1 := ⟨k - 1, by omega⟩
    have hlt : i < l.length := by omega
    have hw : wrap64 (8 * (i : Int)) = ((8 * i : Nat) : Int) := by unfold wrap64; omega
    simp only [linotypelaw02_LiteralBytes.l1]
    rw [if_pos (by omega), hw, if_pos (by omega), if_pos (by rw [List.length_take]; omega)]
    have e1 : shr .i64 (val l) ((8 * i : Nat) : Int) % 256 = l.getD i 0 := by
      unfold shr
      rw [Int.toNat_natCast, Nat.min_eq_left (by simp [IntKind.bits]; omega), Int.pow_mul, show ((2 : Int) ^ 8) = 256 from rfl]
      exact val_div l i hg hlt
    have e2 : l.take i ++ [l.getD i 0] = l.take (i + 1) := by
      rw [List.take_succ_eq_append_getElem hlt, List.getD_eq_getElem?_getD, List.getElem?_eq_getElem hlt]; rfl
    rw [e1, e2, show wrap64 ((i : Int) + 1) = ((i + 1 : Nat) : Int) by unfold wrap64; omega]
    exact ih k (i + 1) (by omega) (by omega) (by omega) hn
theorem look_end1 {l : List Int} (h8 : l.length ≤ 8) (k : Nat) (r : Option Bool)
    (h : ((literal_Scan.f k (txt l) 0).bind fun bt122 => (if bt122.2.1 = (wrap64 ((l.length : Int) + 2)) then (linotypelaw02_LiteralBytes.j2 k l true bt122.1 (bt122.2.2.1 != 0)) else (linotypelaw02_LiteralBytes.j2 k l true bt122.1 true))) = r) :
    linotypelaw02_LiteralBytes.l0 (k + 1) l true (l.length : Int) = r := by
  have hsz := strOfNums_size l
  have hs1 : ((⟨#[39]⟩ : ByteArray) ++ strOfNums l).size = 1 + (strOfNums l).size := by rw [ByteArray.size_append]; rfl
  simp only [linotypelaw02_LiteralBytes.l0]
  rw [if_neg (by omega), if_pos (by omega), if_pos (by omega)]
  exact h
theorem look_end {l : List Int} (hg : Good l) (h8 : l.length ≤ 8) (hn : 0 < l.length) (k : Nat) (hk : 90 ≤ k) : linotypelaw02_LiteralBytes.l0 (k + 1 + 1) l true (l.length : Int) = some true := by
  refine look_end1 h8 (k + 1) _ ?_
  have hw : wrap64 ((l.length : Int) + 2) = (l.length : Int) + 2 := w64 (by omega) (by omega)
  rw [scan_txt hg h8 hn (k + 1) (by omega), hw, Option.bind_some]
  dsimp only
  rw [if_pos rfl]
  simp only [linotypelaw02_LiteralBytes.j2, bne_self_eq_false, Bool.false_eq_true, if_false]
  have := got_loop hg h8 l.length k 0 (by omega) (by omega) (by omega) hn
  simpa using this
/-- The look at each byte: all may be, or the law says nothing. -/
theorem look_loop (l : List Int) (h8 : l.length ≤ 8) (hn : 0 < l.length) (d : Nat) : ∀ (i k : Nat), i ≤ l.length → l.length - i = d → (∀ j, j < i → 32 ≤ l.getD j 0 ∧ l.getD j 0 ≤ 126 ∧ l.getD j 0 ≠ 39) → 100 ≤ k →
    linotypelaw02_LiteralBytes.l0 (k + d) l true (i : Int) = some true := by
  induction d with
  | zero =>
    intro i k hi hd hj hk
    rw [Nat.add_zero]
    obtain ⟨k, rfl⟩ : ∃ m, k = m + 1 + 1 := ⟨k - 2, by omega⟩
    obtain rfl : i = l.length := by omega
    have hg : Good l := fun x hx => by
      obtain ⟨j, hj1, rfl⟩ := List.mem_iff_getElem.1 hx
      have := hj j hj1
      simpa [List.getD_eq_getElem?_getD, List.getElem?_eq_getElem hj1] using this
    exact look_end hg h8 hn k (by omega)
  | succ d ih =>
    intro i k hi hd hj hk
    have hlt : i < l.length := by omega
    rw [show k + (d + 1) = (k + d) + 1 by omega]
    simp only [linotypelaw02_LiteralBytes.l0]
    have e : rd l (i : Int) = l.getD i 0 := by simp [rd]
    rw [if_pos (by omega), if_pos (by omega), e]
    by_cases c1 : l.getD i 0 < 32
    · rw [if_pos c1]
    · rw [if_neg c1]
      by_cases c2 : l.getD i 0 > 126
      · rw [if_pos c2]
      · rw [if_neg c2]
        by_cases c3 : l.getD i 0 = 39
        · rw [if_pos c3]
        · rw [if_neg c3, show wrap64 ((i : Int) + 1) = ((i + 1 : Nat) : Int) by unfold wrap64; omega]
          refine ih (i + 1) k (by omega) (by omega) (fun j hj1 => ?_) hk
          rcases Nat.lt_or_ge j i with h | h
          · exact hj j h
          · obtain rfl : j = i := by omega
            exact ⟨by omega, by omega, c3⟩
end LB
open LB in
theorem LiteralBytes : linotypelaw02_LiteralBytes.Pure := by
  intro l _ _ _
  refine ⟨200, ?_⟩
  unfold linotypelaw02_LiteralBytes.f
  simp only [linotypelaw02_awake.f, Option.bind_some]
  by_cases c : (l.length : Int) < 1
  · rw [if_pos c]; simp [linotypelaw02_LiteralBytes.j0]
  · rw [if_neg c]
    by_cases c2 : (l.length : Int) > 8
    · rw [decide_eq_true c2]; simp [linotypelaw02_LiteralBytes.j0]
    · rw [decide_eq_false c2]
      simp only [linotypelaw02_LiteralBytes.j0]
      rw [if_neg (by decide)]
      have := look_loop l (by omega) (by omega) l.length 0 (199 - l.length) (by omega) (by omega) (fun j hj => by omega) (by omega)
      rwa [show 199 - l.length + l.length = 199 by omega] at this
end Go.Proofs.YtdndcigppbhhdaaDoor.Pure
