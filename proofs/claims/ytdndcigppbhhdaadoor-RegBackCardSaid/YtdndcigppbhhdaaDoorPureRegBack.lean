/-
  RegBack, the plain law: a register's name is parsed as it, with letters of any size; and a text that is parsed is that register's name, but for its letters' sizes; of what the machine's side computes (the printed functions), for every register, text and number.
-/
import Derived.Test.YtdndcigppbhhdaaDoorQRegBackx3
namespace Go.Proofs.YtdndcigppbhhdaaDoor.Pure
open Go.RowKit Go.Proofs.YtdndcigppbhhdaaDoor.QRegBack Go.Proofs.YtdndcigppbhhdaaDoorW.PrintWords Go.Proofs.YtdndcigppbhhdaaDoorW.PrintLast Go.Proofs.YtdndcigppbhhdaaDoorW.PrintMore
open Go.Proofs.YtdndcigppbhhdaaDoorAM (nm fst)
namespace RBk
/-- A list of bytes as a text. -/
def B (l : List UInt8) : ByteArray := ⟨l.toArray⟩
theorem B_append (l m : List UInt8) : B l ++ B m = B (l ++ m) := by
  apply ByteArray.ext
  simp [B, ByteArray.data_append]
theorem B_size (l : List UInt8) : (B l).size = l.length := by simp [B, ByteArray.size]
theorem B_list (s : ByteArray) : B s.data.toList = s := by
  apply ByteArray.ext
  simp [B]
theorem toList_B (l : List UInt8) : (B l).toList = l := by
  rw [ByteArray.toList_eq]
  simp [B]
theorem toList_inj {s t : ByteArray} : s.toList = t.toList ↔ s = t := by
  constructor
  · intro h
    rw [← B_list s, ← B_list t, toList_B, toList_B] at h
    rw [← B_list s, ← B_list t, h]
  · rintro rfl; rfl
theorem B_inj {l m : List UInt8} (h : B l = B m) : l = m := by rw [← toList_B l, ← toList_B m, h]
def at_ (l : List UInt8) (i : Nat) : Nat := ((l[i]?).getD 0).toNat
theorem bt_B (l : List UInt8) (i : Nat) : bt (B l) (i : Int) = ((at_ l i : Nat) : Int) := by
  unfold bt at_
  simp only [Int.toNat_natCast]
  split
  · rename_i h
    have h' : i < l.length := by simpa [B_size] using h
    rw [List.getElem?_eq_getElem h']
    rfl
  · rename_i h
    have h' : ¬ i < l.length := by simpa [B_size] using h
    rw [List.getElem?_eq_none (by omega)]
    rfl
theorem at_get (l : List UInt8) (i : Nat) (h : i < l.length) : at_ l i = l[i].toNat := by unfold at_; rw [List.getElem?_eq_getElem h]; rfl
theorem w64 {x : Int} (h0 : 0 ≤ x) (h1 : x < 9223372036854775808) : wrap64 x = x := by unfold wrap64; omega
theorem one (x : Int) (c : UInt8) (h : x = ((c.toNat : Nat) : Int)) : strOfNums [x] = B [c] := by
  subst h
  unfold strOfNums B
  simp
/-- A byte with a small letter. -/
def lowc (c : UInt8) : UInt8 := if 65 ≤ c.toNat ∧ c.toNat ≤ 90 then UInt8.ofNat (c.toNat + 32) else c
theorem lowc_pos (c : UInt8) (h : 65 ≤ c.toNat ∧ c.toNat ≤ 90) : (((c.toNat : Nat) : Int) + 32) % 256 = (((lowc c).toNat : Nat) : Int) := by
  have : (lowc c).toNat = c.toNat + 32 := by
    unfold lowc
    rw [if_pos h, UInt8.toNat_ofNat_of_lt' (by simp [UInt8.size]; omega)]
  rw [this]; omega
theorem lowc_neg (c : UInt8) (h : ¬ (65 ≤ c.toNat ∧ c.toNat ≤ 90)) : lowc c = c := by unfold lowc; rw [if_neg h]
/-- A byte with a large letter. -/
def upc (c : UInt8) : UInt8 := UInt8.ofNat (c.toNat - 32)
theorem upc_facts (c : UInt8) (h : 97 ≤ c.toNat ∧ c.toNat ≤ 122) : (((c.toNat : Nat) : Int) - 32) % 256 = (((upc c).toNat : Nat) : Int) ∧ lowc (upc c) = c := by
  have : (upc c).toNat = c.toNat - 32 := by
    unfold upc
    rw [UInt8.toNat_ofNat_of_lt' (by simp [UInt8.size]; omega)]
  refine ⟨by rw [this]; omega, ?_⟩
  unfold lowc
  rw [if_pos (by omega), this, show c.toNat - 32 + 32 = c.toNat by omega]
  simp
def lowL (l : List UInt8) : List UInt8 := l.map lowc
/-! ### small -/
theorem small_loop (l : List UInt8) (hl : l.length ≤ 100) : ∀ (d i k : Nat), i ≤ l.length → l.length - i = d → d < k → linotypelaw03_small.l0 k (B l) (B (lowL (l.take i))) (i : Int) = some (B (lowL l)) := by
  have hs := B_size l
  intro d
  induction d with
  | zero =>
    intro i k hi hd hk
    obtain ⟨k, rfl⟩ : ∃ m, k = m + 1 := ⟨k - 1, by omega⟩
    obtain rfl : i = l.length := by omega
    simp only [linotypelaw03_small.l0]
    rw [if_neg (by omega), List.take_length]
  | succ d ih =>
    intro i k hi hd hk
    obtain ⟨k, rfl⟩ : ∃ m, k = m + 1 := ⟨k - 1, by omega⟩
    have hlt : i < l.length := by omega
    have hat := at_get l i hlt
    have ht : (B (lowL (l.take i))).size ≤ 100 := by rw [B_size]; simp [lowL]; omega
    have h1 : ∀ x : Int, (strOfNums [x]).size = 1 := fun _ => rfl
    have hI := ih (i + 1) k (by omega) (by omega) (by omega)
    have e : lowL (l.take (i + 1)) = lowL (l.take i) ++ [lowc l[i]] := by
      unfold lowL
      rw [List.take_succ_eq_append_getElem hlt, List.map_append]; rfl
    rw [e, ← B_append] at hI
    have HN : Aside0 (wrap64 ((i : Int) + 1) = ((i + 1 : Nat) : Int)) := ⟨by rw [w64 (by omega) (by omega)]; omega⟩
    simp only [linotypelaw03_small.l0]
    rw [if_pos (by omega), if_pos (by omega), bt_B, hat]
    have h2 := h1 ((((l[i].toNat : Nat) : Int) + 32) % 256)
    have h3 := h1 ((l[i].toNat : Nat) : Int)
    by_cases c1 : 65 ≤ l[i].toNat
    · rw [if_pos (by omega)]
      by_cases c2 : l[i].toNat ≤ 90
      · rw [if_pos (by omega), Option.bind_some, if_pos (by omega), HN.out, one _ _ (lowc_pos _ ⟨c1, c2⟩)]
        exact hI
      · rw [if_neg (by omega), Option.bind_some, if_pos (by omega), HN.out, one _ (lowc l[i]) (by rw [lowc_neg _ (fun h => c2 h.2)])]
        exact hI
    · rw [if_neg (by omega), Option.bind_some, if_pos (by omega), HN.out, one _ (lowc l[i]) (by rw [lowc_neg _ (fun h => c1 h.1)])]
      exact hI
theorem small_eq (l : List UInt8) (hl : l.length ≤ 100) (k : Nat) (hk : 101 ≤ k) : linotypelaw03_small.f k (B l) = some (B (lowL l)) :=
  small_loop l hl l.length 0 k (by omega) (by omega) (by omega)
/-! ### turned -/
theorem turned_loop (l : List UInt8) (hl : l.length ≤ 100) (hlow : lowL l = l) (t : Int) : ∀ (d i k : Nat) (m : List UInt8), i ≤ l.length → l.length - i = d → d < k → lowL m = l.take i → ∃ m', linotypelaw03_turned.l0 k (B l) t (B m) (i : Int) = some (B m') ∧ lowL m' = l := by
  have hs := B_size l
  intro d
  induction d with
  | zero =>
    intro i k m hi hd hk hm
    obtain ⟨k, rfl⟩ : ∃ m, k = m + 1 := ⟨k - 1, by omega⟩
    obtain rfl : i = l.length := by omega
    simp only [linotypelaw03_turned.l0]
    rw [if_neg (by omega)]
    exact ⟨m, rfl, by rw [hm, List.take_length]⟩
  | succ d ih =>
    intro i k m hi hd hk hm
    obtain ⟨k, rfl⟩ : ∃ m, k = m + 1 := ⟨k - 1, by omega⟩
    have hlt : i < l.length := by omega
    have hat := at_get l i hlt
    have hml : m.length = i := by
      have := congrArg List.length hm
      simp [lowL] at this
      omega
    have hms : (B m).size = i := by rw [B_size, hml]
    have h1 : ∀ x : Int, (strOfNums [x]).size = 1 := fun _ => rfl
    have hci : lowc l[i] = l[i] := by
      have h2 : (lowL l)[i]? = l[i]? := by rw [hlow]
      unfold lowL at h2
      rw [List.getElem?_map, List.getElem?_eq_getElem hlt] at h2
      simpa using h2
    have htk : l.take (i + 1) = l.take i ++ [l[i]] := List.take_succ_eq_append_getElem hlt
    have hI := fun c (hc : lowc c = l[i]) => ih (i + 1) k (m ++ [c]) (by omega) (by omega) (by omega) (by rw [htk, ← hm]; unfold lowL; rw [List.map_append, ← hc]; rfl)
    have HN : Aside0 (wrap64 ((i : Int) + 1) = ((i + 1 : Nat) : Int)) := ⟨by rw [w64 (by omega) (by omega)]; omega⟩
    have h3 := h1 ((l[i].toNat : Nat) : Int)
    have h2 := h1 ((((l[i].toNat : Nat) : Int) - 32) % 256)
    have hmod : 0 ≤ Int.tmod (i : Int) 60 := Int.tmod_nonneg _ (by omega)
    have same := hI l[i] hci
    rw [← B_append] at same
    simp only [linotypelaw03_turned.l0]
    rw [if_pos (by omega), if_pos (by omega), if_pos hmod, bt_B, hat]
    split
    · rw [Option.bind_some, if_pos (by omega), HN.out, one _ _ rfl]
      exact same
    · by_cases c1 : 97 ≤ l[i].toNat
      · rw [if_pos (by omega)]
        by_cases c2 : l[i].toNat ≤ 122
        · have hu := upc_facts l[i] ⟨c1, c2⟩
          have up := hI (upc l[i]) hu.2
          rw [← B_append] at up
          rw [if_pos (by omega), Option.bind_some, if_pos (by omega), HN.out, one _ _ hu.1]
          exact up
        · rw [if_neg (by omega), Option.bind_some, if_pos (by omega), HN.out, one _ _ rfl]
          exact same
      · rw [if_neg (by omega), Option.bind_some, if_pos (by omega), HN.out, one _ _ rfl]
        exact same
theorem turned_eq (l : List UInt8) (hl : l.length ≤ 100) (hlow : lowL l = l) (t : Int) (k : Nat) (hk : 101 ≤ k) : ∃ m, linotypelaw03_turned.f k (B l) t = some (B m) ∧ lowL m = l :=
  turned_loop l hl hlow t l.length 0 k [] (by omega) (by omega) (by omega) rfl
/-! ### Index -/
theorem index_loop (L : List ByteArray) (hL : L.length ≤ 100) (a : ByteArray) : ∀ (d i k : Nat), i ≤ L.length → L.length - i = d → d < k →
    (slices_Index_string_string.l0 k L a (L.length : Int) (i : Int) = some (-1) ∧ ∀ j, i ≤ j → L[j]? ≠ some a) ∨ ∃ j : Nat, slices_Index_string_string.l0 k L a (L.length : Int) (i : Int) = some (j : Int) ∧ L[j]? = some a := by
  intro d
  induction d with
  | zero =>
    intro i k hi hd hk
    obtain ⟨k, rfl⟩ : ∃ m, k = m + 1 := ⟨k - 1, by omega⟩
    obtain rfl : i = L.length := by omega
    simp only [slices_Index_string_string.l0]
    rw [if_neg (by omega)]
    exact .inl ⟨rfl, fun j hj => by rw [List.getElem?_eq_none hj]; simp⟩
  | succ d ih =>
    intro i k hi hd hk
    obtain ⟨k, rfl⟩ : ∃ m, k = m + 1 := ⟨k - 1, by omega⟩
    have hlt : i < L.length := by omega
    have HN : Aside0 (wrap64 ((i : Int) + 1) = ((i + 1 : Nat) : Int)) := ⟨by rw [w64 (by omega) (by omega)]; omega⟩
    have hrd : rdOf ByteArray.empty L (i : Int) = L[i] := by simp [rdOf, List.getD_eq_getElem?_getD, List.getElem?_eq_getElem hlt]
    simp only [slices_Index_string_string.l0]
    rw [if_pos (by omega), if_pos (by omega), if_pos (by omega), hrd]
    by_cases c : a.toList = L[i].toList
    · rw [if_pos c]
      exact .inr ⟨i, rfl, by rw [List.getElem?_eq_getElem hlt, toList_inj.1 c]⟩
    · rw [if_neg c, HN.out]
      rcases ih (i + 1) k (by omega) (by omega) (by omega) with ⟨h1, h2⟩ | h
      · refine .inl ⟨h1, fun j hj => ?_⟩
        rcases Nat.lt_or_ge i j with h3 | h3
        · exact h2 j h3
        · obtain rfl : j = i := by omega
          rw [List.getElem?_eq_getElem hlt]
          intro h4
          injection h4 with h4
          exact c (by rw [h4])
      · exact .inr h
/-! ### The names -/
def idxs : List (Nat × Nat) := [(1, 16), (2, 4), (3, 16), (4, 16), (5, 16), (6, 16), (7, 16), (8, 1)]
/-- All names: class, place, bytes. -/
def allN : List (Nat × Nat × List UInt8) := idxs.flatMap fun p => (List.range p.2).map fun j => (p.1, j, ((nm (p.1 : Int))[j]?.getD ByteArray.empty).data.toList)
theorem names_facts : ∀ c : _root_.Fin 9, (nm (c.val : Int)).length ≤ 16 ∧ ∀ j : _root_.Fin 16, j.val < (nm (c.val : Int)).length → (fun s : ByteArray => s.data.toList ≠ [] ∧ s.data.toList.length ≤ 8 ∧ lowL s.data.toList = s.data.toList ∧ ∀ c' : _root_.Fin 9, ∀ j' : _root_.Fin 16, ((nm (c'.val : Int))[j'.val]?).map (fun s' => s'.data.toList) = some s.data.toList → c'.val = c.val ∧ j'.val = j.val) ((nm (c.val : Int))[j.val]?.getD ByteArray.empty) := by decide +kernel
theorem nm_out (c : Int) (h : ¬ (1 ≤ c ∧ c ≤ 8)) : nm c = [] := by
  unfold nm
  rw [if_neg (by omega), if_neg (by omega), if_neg (by omega), if_neg (by omega), if_neg (by omega), if_neg (by omega), if_neg (by omega), if_neg (by omega)]
theorem nm_len (c : Int) : (nm c).length ≤ 16 := by
  by_cases h : 1 ≤ c ∧ c ≤ 8
  · have := (names_facts ⟨c.toNat, by omega⟩).1
    rwa [show (((⟨c.toNat, by omega⟩ : _root_.Fin 9).val : Nat) : Int) = c by show ((c.toNat : Nat) : Int) = c; omega] at this
  · rw [nm_out c h]; simp
theorem nm_fact {c : Int} {j : Nat} {s : ByteArray} (h : (nm c)[j]? = some s) : (1 ≤ c ∧ c ≤ 8) ∧ s.data.toList ≠ [] ∧ s.data.toList.length ≤ 8 ∧ lowL s.data.toList = s.data.toList ∧ ∀ (c' : Int) (j' : Nat), (nm c')[j']? = some s → c' = c ∧ j' = j := by
  have hc : ∀ {c : Int} {j : Nat}, (nm c)[j]? = some s → 1 ≤ c ∧ c ≤ 8 := fun {c j} h => by
    rcases Decidable.em (1 ≤ c ∧ c ≤ 8) with g | g
    · exact g
    · rw [nm_out c g] at h; simp at h
  have hj : ∀ {c : Int} {j : Nat}, (nm c)[j]? = some s → j < 16 := fun {c j} h => by
    have h1 := nm_len c
    have h2 := (List.getElem?_eq_some_iff.1 h).1
    omega
  have g := hc h
  have q := hj h
  have hv : ∀ {c : Int} (g : 1 ≤ c ∧ c ≤ 8), (((⟨c.toNat, by omega⟩ : _root_.Fin 9).val : Nat) : Int) = c := fun {c} g => by show ((c.toNat : Nat) : Int) = c; omega
  have f := (names_facts ⟨c.toNat, by omega⟩).2 ⟨j, q⟩ (by rw [hv g]; exact (List.getElem?_eq_some_iff.1 h).1)
  rw [hv g, h] at f
  obtain ⟨f1, f2, f3, f4⟩ := f
  refine ⟨g, f1, f2, f3, fun c' j' h' => ?_⟩
  have g' := hc h'
  have q' := hj h'
  have := f4 ⟨c'.toNat, by omega⟩ ⟨j', q'⟩ (by rw [hv g', h']; rfl)
  exact ⟨by have := this.1; simp only at this; omega, this.2⟩
/-! ### Name, Valid -/
def nameS (c n : Int) : ByteArray := if fst c ≤ n ∧ n - fst c < ((nm c).length : Int) then ((nm c)[(n - fst c).toNat]?).getD ByteArray.empty else ⟨#[]⟩
theorem fst_cases (c : Int) : fst c = 0 ∨ fst c = 4 := by unfold fst; split <;> simp
theorem name_eq (c n : Int) (h0 : -9223372036854775808 ≤ n) (h1 : n ≤ 9223372036854775807) : reg_Name.f c n = some (nameS c n) := by
  have hl := nm_len c
  have hf := fst_cases c
  unfold reg_Name.f reg_names.f nameS
  rw [Option.bind_some]
  dsimp only
  generalize hx : wrap64 (n - fst c) = x
  have hX : (fst c ≤ n ∧ x = n - fst c) ∨ (n < fst c ∧ (x < 0 ∨ 100 ≤ x)) := by
    unfold wrap64 at hx
    omega
  clear hx
  rcases hX with ⟨g1, g2⟩ | ⟨g1, g2⟩
  · rw [if_neg (by omega)]
    by_cases c2 : x ≥ ((nm c).length : Int)
    · rw [if_pos c2, if_neg (by omega)]
    · rw [if_neg c2, if_pos (by omega), if_pos (by omega), if_pos ⟨g1, by omega⟩, g2]
      simp [rdOf, List.getD_eq_getElem?_getD]
  · rw [if_neg (show ¬ (fst c ≤ n ∧ n - fst c < ((nm c).length : Int)) by omega)]
    rcases g2 with g2 | g2
    · rw [if_pos g2]
    · rw [if_neg (by omega), if_pos (by omega)]
theorem nameS_pos {c n : Int} (h : nameS c n ≠ ⟨#[]⟩) : fst c ≤ n ∧ (nm c)[(n - fst c).toNat]? = some (nameS c n) := by
  unfold nameS at h ⊢
  split at h
  · rename_i g
    rw [if_pos g]
    refine ⟨g.1, ?_⟩
    rw [List.getElem?_eq_getElem (by omega)]
    rfl
  · exact absurd rfl h
theorem nameS_at {c : Int} {j : Nat} {s : ByteArray} (h : (nm c)[j]? = some s) : nameS c (fst c + j) = s := by
  have hj := (List.getElem?_eq_some_iff.1 h).1
  unfold nameS
  rw [if_pos (by omega), show (fst c + (j : Int) - fst c).toNat = j by omega, h]
  rfl
/-! ### Parse -/
theorem class_loop (m : List Int) (s : ByteArray) (hm : strOfNums m = s) : ∀ (d : Nat) (c : Nat) (k : Nat), 9 - c = d → 1 ≤ c → c ≤ 9 → d + 100 < k →
    (reg_Parse.l1 k m (c : Int) = some (0, 0, false) ∧ ∀ c' : Nat, c ≤ c' → ∀ j : Nat, (nm (c' : Int))[j]? ≠ some s) ∨ ∃ (c' : Nat) (j : Nat), reg_Parse.l1 k m (c : Int) = some ((c' : Int), fst (c' : Int) + j, true) ∧ (nm (c' : Int))[j]? = some s := by
  intro d
  induction d with
  | zero =>
    intro c k hd h1 h2 hk
    obtain ⟨k, rfl⟩ : ∃ m, k = m + 1 := ⟨k - 1, by omega⟩
    simp only [reg_Parse.l1]
    rw [if_neg (by omega)]
    exact .inl ⟨rfl, fun c' hc j => by rw [nm_out _ (by omega)]; simp⟩
  | succ d ih =>
    intro c k hd h1 h2 hk
    obtain ⟨k, rfl⟩ : ∃ m, k = m + 1 := ⟨k - 1, by omega⟩
    have hl := nm_len (c : Int)
    have hf := fst_cases (c : Int)
    have HN : Aside0 (wrap64 ((c : Int) + 1) = ((c + 1 : Nat) : Int)) := ⟨by rw [w64 (by omega) (by omega)]; omega⟩
    simp only [reg_Parse.l1, reg_names.f, slices_Index_string_string.f]
    rw [if_pos (by omega), Option.bind_some, hm]
    dsimp only
    rcases index_loop (nm (c : Int)) (by omega) s _ 0 k (by omega) rfl (by omega) with ⟨g1, g2⟩ | ⟨j, g1, g2⟩
    · rw [show ((0 : Nat) : Int) = 0 from rfl] at g1
      rw [g1, Option.bind_some, if_neg (by decide), HN.out]
      rcases ih (c + 1) k (by omega) (by omega) (by omega) (by omega) with ⟨q1, q2⟩ | q
      · refine .inl ⟨q1, fun c' hc j => ?_⟩
        rcases Nat.lt_or_ge c c' with q3 | q3
        · exact q2 c' q3 j
        · obtain rfl : c' = c := by omega
          exact g2 j (Nat.zero_le _)
      · exact .inr q
    · rw [show ((0 : Nat) : Int) = 0 from rfl] at g1
      have hj := (List.getElem?_eq_some_iff.1 g2).1
      refine .inr ⟨c, j, ?_, g2⟩
      rw [g1, Option.bind_some, if_pos (by omega), w64 (by omega) (by omega)]
theorem strOfNums_low (l : List UInt8) : strOfNums ((lowL l).map fun c => ((c.toNat : Nat) : Int)) = B (lowL l) := by
  unfold strOfNums B
  congr 1
  rw [List.map_map]
  congr 1
  conv => rhs; rw [← List.map_id (lowL l)]
  apply List.map_congr_left
  intro c _
  simp
theorem low_loop (l : List UInt8) (n : Nat) (hn : n = min l.length 8) : ∀ (d i k : Nat), i ≤ n → n - i = d → d < k →
    reg_Parse.l0 k (B l) ((lowL (l.take i)).map fun c => ((c.toNat : Nat) : Int)) (n : Int) (i : Int) = (if (l.length : Int) > 8 then some (0, 0, false) else reg_Parse.l1 (k - d - 1) ((lowL (l.take n)).map fun c => ((c.toNat : Nat) : Int)) 1) := by
  have hs := B_size l
  intro d
  induction d with
  | zero =>
    intro i k hi hd hk
    obtain ⟨k, rfl⟩ : ∃ m, k = m + 1 := ⟨k - 1, by omega⟩
    obtain rfl : i = n := by omega
    simp only [reg_Parse.l0]
    rw [if_neg (by omega), hs, show k + 1 - 0 - 1 = k by omega]
  | succ d ih =>
    intro i k hi hd hk
    obtain ⟨k, rfl⟩ : ∃ m, k = m + 1 := ⟨k - 1, by omega⟩
    have hlt : i < l.length := by omega
    have hat := at_get l i hlt
    have hI := ih (i + 1) k (by omega) (by omega) (by omega)
    have e : lowL (l.take (i + 1)) = lowL (l.take i) ++ [lowc l[i]] := by
      unfold lowL
      rw [List.take_succ_eq_append_getElem hlt, List.map_append]; rfl
    rw [e, List.map_append, show k - d - 1 = k + 1 - (d + 1) - 1 by omega] at hI
    simp only [List.map_cons, List.map_nil] at hI
    have hlen : (List.map (fun c : UInt8 => ((c.toNat : Nat) : Int)) (lowL (List.take i l))).length < 140737488355328 := by simp [lowL]; omega
    have HN : Aside0 (wrap64 ((i : Int) + 1) = ((i + 1 : Nat) : Int)) := ⟨by rw [w64 (by omega) (by omega)]; omega⟩
    simp only [reg_Parse.l0]
    rw [if_pos (by omega), if_pos (by omega), if_pos (by omega), bt_B, hat]
    by_cases c1 : 65 ≤ l[i].toNat
    · rw [if_pos (by omega)]
      by_cases c2 : l[i].toNat ≤ 90
      · rw [if_pos (by omega), if_pos hlen, HN.out, lowc_pos _ ⟨c1, c2⟩]
        exact hI
      · rw [lowc_neg _ (fun h => c2 h.2)] at hI
        rw [if_neg (by omega), if_pos hlen, HN.out]
        exact hI
    · rw [lowc_neg _ (fun h => c1 h.1)] at hI
      rw [if_neg (by omega), if_pos hlen, HN.out]
      exact hI
theorem parse_eq (l : List UInt8) (hl : l.length ≤ 100) (k : Nat) (hk : 200 ≤ k) :
    (reg_Parse.f k (B l) = some (0, 0, false) ∧ (8 < l.length ∨ ∀ (c : Int) (j : Nat), (nm c)[j]? ≠ some (B (lowL l)))) ∨ ∃ (c : Int) (j : Nat), reg_Parse.f k (B l) = some (c, fst c + j, true) ∧ (nm c)[j]? = some (B (lowL l)) := by
  have hs := B_size l
  have hmn : mn ((B l).size : Int) 8 = ((min l.length 8 : Nat) : Int) := by unfold mn; split <;> omega
  have h := low_loop l (min l.length 8) rfl (min l.length 8) 0 k (Nat.zero_le _) rfl (by omega)
  have hf : reg_Parse.f k (B l) = (if (l.length : Int) > 8 then some (0, 0, false) else reg_Parse.l1 (k - min l.length 8 - 1) ((lowL (l.take (min l.length 8))).map fun c => ((c.toNat : Nat) : Int)) 1) := by
    unfold reg_Parse.f
    rw [if_pos (by decide), hmn]
    exact h
  rw [hf]
  by_cases c8 : 8 < l.length
  · rw [if_pos (by omega)]
    exact .inl ⟨rfl, .inl c8⟩
  · rw [if_neg (by omega), show l.take (min l.length 8) = l from List.take_of_length_le (by omega)]
    rcases class_loop _ (B (lowL l)) (strOfNums_low l) 8 1 (k - min l.length 8 - 1) rfl (Nat.le_refl _) (by omega) (by omega) with ⟨g1, g2⟩ | ⟨c, j, g1, g2⟩
    · refine .inl ⟨g1, .inr fun c j h => ?_⟩
      have hc := (nm_fact h).1
      obtain ⟨m, rfl⟩ := Int.eq_ofNat_of_zero_le (show 0 ≤ c by omega)
      exact g2 m (by omega) j h
    · exact .inr ⟨c, j, g1, g2⟩
theorem nameS_ne {c : Int} {j : Nat} {s : ByteArray} (h : (nm c)[j]? = some s) : nameS c (fst c + j) ≠ ⟨#[]⟩ := by
  rw [nameS_at h]
  intro e
  exact (nm_fact h).2.1 (by rw [e])
theorem empty_toList : ByteArray.toList ⟨#[]⟩ = [] := toList_B []
theorem toList_nil {s : ByteArray} (h : s ≠ ⟨#[]⟩) : s.toList ≠ [] := fun e => h (toList_inj.1 (e.trans empty_toList.symm))
theorem in64 {c : Int} {j : Nat} {s : ByteArray} (h : (nm c)[j]? = some s) : -9223372036854775808 ≤ fst c + (j : Int) ∧ fst c + (j : Int) ≤ 9223372036854775807 := by
  have h1 := nm_len c
  have h2 := (List.getElem?_eq_some_iff.1 h).1
  have h3 := fst_cases c
  omega
/-- The law's second half: a text that is parsed is that register's name, but for its letters' sizes. -/
theorem second (l : List UInt8) (hl : l.length ≤ 40) (k : Nat) (hk : 300 ≤ k) : linotypelaw03_RegBack.j0 (k + 1) (B l) true false = some true := by
  simp only [linotypelaw03_RegBack.j0]
  rw [if_neg (by decide)]
  rcases parse_eq l (by omega) k (by omega) with ⟨h, _⟩ | ⟨c, j, h, hs⟩
  · rw [h, Option.bind_some]
    rfl
  · have hi := in64 hs
    have hn := name_eq c (fst c + j) hi.1 hi.2
    have hv : reg_Valid.f c (fst c + (j : Int)) = some true := by
      unfold reg_Valid.f
      rw [hn, Option.bind_some]
      have := toList_nil (nameS_ne hs)
      simp [this]
    rw [h, Option.bind_some]
    dsimp only
    simp only [if_true]
    rw [hv, Option.bind_some, if_pos rfl, small_eq l (by omega) k (by omega), Option.bind_some, hn, Option.bind_some, nameS_at hs]
    simp
theorem main (c n t : Int) (h0 : -9223372036854775808 ≤ n) (h1 : n ≤ 9223372036854775807) (s : ByteArray) (k : Nat) (hk : 300 ≤ k) : linotypelaw03_RegBack.f (k + 1) c n s t = some true := by
  obtain ⟨l, rfl⟩ : ∃ l, s = B l := ⟨_, (B_list s).symm⟩
  have hs := B_size l
  unfold linotypelaw03_RegBack.f linotypelaw03_RegKnown.f
  rw [Option.bind_some]
  by_cases c40 : ((B l).size : Int) > 40
  · rw [if_pos c40]
  · have h2 := second l (by omega) k hk
    rw [if_neg c40, name_eq c n h0 h1, Option.bind_some]
    by_cases hne : nameS c n = ⟨#[]⟩
    · obtain ⟨m, hm1, hm2⟩ := turned_eq [] (by simp) rfl t (k + 1) (by omega)
      have hm : m = [] := by
        cases m with
        | nil => rfl
        | cons x m => simp [lowL] at hm2
      subst hm
      rw [hne, show (⟨#[]⟩ : ByteArray) = B [] from rfl, hm1, Option.bind_some]
      have hv : reg_Valid.f c n = some false := by
        unfold reg_Valid.f
        rw [name_eq c n h0 h1, Option.bind_some, hne, empty_toList]
        rfl
      rcases parse_eq [] (by simp) (k + 1) (by omega) with ⟨h, _⟩ | ⟨c', j, h, hj⟩
      · rw [h, Option.bind_some, hv, Option.bind_some, toList_B]
        dsimp only
        rw [if_neg (by decide), if_neg (by decide), show ((([] : List UInt8) == ([] : List UInt8)) == false) = false from rfl]
        exact h2
      · exact absurd rfl (nm_fact hj).2.1
    · obtain ⟨g1, g2⟩ := nameS_pos hne
      obtain ⟨f1, f2, f3, f4, f5⟩ := nm_fact g2
      generalize hN : nameS c n = N at *
      obtain ⟨nl, rfl⟩ : ∃ l, N = B l := ⟨_, (B_list N).symm⟩
      have e : (B nl).data.toList = nl := by simp [B]
      rw [e] at f2 f3 f4
      obtain ⟨m, hm1, hm2⟩ := turned_eq nl (by omega) f4 t (k + 1) (by omega)
      have hml : m.length = nl.length := by
        have := congrArg List.length hm2
        simpa [lowL] using this
      have hv : reg_Valid.f c n = some true := by
        unfold reg_Valid.f
        rw [name_eq c n h0 h1, Option.bind_some, hN]
        have := toList_nil hne
        simp [this]
      rw [hm1, Option.bind_some]
      rcases parse_eq m (by omega) (k + 1) (by omega) with ⟨h, hno⟩ | ⟨c', j, h, hj⟩
      · rcases hno with hno | hno
        · omega
        · rw [hm2] at hno
          exact absurd g2 (hno _ _)
      · rw [hm2] at hj
        obtain ⟨q1, q2⟩ := f5 c' j hj
        subst q1
        have hjn : fst c' + (j : Int) = n := by omega
        rw [hjn] at h
        have hne2 : (B nl).toList ≠ [] := by rw [toList_B]; exact f2
        rw [h, Option.bind_some, hv, Option.bind_some]
        dsimp only
        rw [if_neg (by decide), if_pos rfl, if_neg (by simp), show (((B nl).toList == ([] : List UInt8)) == true) = false by simp [hne2]]
        exact h2
end RBk
/-- RegBack: its call returns true, whatever its arguments, in a world whose low blocks are as they were laid. -/
theorem RegBack_walk [Go.Proofs.YtdndcigppbhhdaaDoorAM.Glo] [Go.Proofs.YtdndcigppbhhdaaDoorAM.Tab] (c n : Int) (s : ByteArray) (t : Int) (w : World) (hL : Go.Proofs.YtdndcigppbhhdaaDoorAM.Low w) (h0 : -9223372036854775808 ≤ n) (h1 : n ≤ 9223372036854775807) :
    Calls Tryd.prog 4 #[.agg #[.int .i64 c, .int .i64 n], .string s, .int .i64 t] w fun e w' => e = .returned (.bool true) ∧ Below w.heap.size w w' :=
  linotypelaw03_RegBack.calls (300 + 1) c n s t true w hL (RBk.main c n t h0 h1 s 300 (Nat.le_refl _))
end Go.Proofs.YtdndcigppbhhdaaDoor.Pure
namespace Go.Proofs.YtdndcigppbhhdaaDoor.Pure
open Go.RowKit
/-- The same, as the row asks it. -/
theorem RegBack_row [Go.Proofs.YtdndcigppbhhdaaDoorAM.Glo] [Go.Proofs.YtdndcigppbhhdaaDoorAM.Tab] (a0 : Int) (_w0 : (Lit.int .i64 a0).wf = true) (b0 : Int) (x0 : (Lit.int .i64 b0).wf = true) (a1 : ByteArray) (a2 : Int) (_w2 : (Lit.int .i64 a2).wf = true) (w : World) (hL : Go.Proofs.YtdndcigppbhhdaaDoorAM.Low w) :
    Calls Tryd.prog 4 #[.agg #[.int .i64 a0, .int .i64 b0], .string a1, .int .i64 a2] w fun e w' => e = .returned (.bool true) ∧ Below w.heap.size w w' := by
  have hI : -9223372036854775808 ≤ b0 ∧ b0 ≤ 9223372036854775807 := by
    simp [Lit.wf] at x0
    have e1 : IntKind.i64.min = -9223372036854775808 := rfl
    have e2 : IntKind.i64.max = 9223372036854775807 := rfl
    exact ⟨by omega, by omega⟩
  exact RegBack_walk a0 b0 a1 a2 w hL hI.1 hI.2
end Go.Proofs.YtdndcigppbhhdaaDoor.Pure
