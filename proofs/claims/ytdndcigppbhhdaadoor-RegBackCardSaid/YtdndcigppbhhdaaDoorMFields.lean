/-
  The interpreter over abstract values: the library's Fields, called with a known text below 128; its table is among the blocks that stay. And a call's way into a row: the blocks below the first world's end stay.
-/
import Derived.Test.YtdndcigppbhhdaaDoorAM17
import Derived.Test.YtdndcigppbhhdaaDoorMShelf
namespace Go.Proofs.YtdndcigppbhhdaaDoorAM
open Go.RowKit
set_option linter.unusedSimpArgs false
set_option linter.unusedVariables false
noncomputable section

class Tab [Glo] : Prop where
  tab : ∀ w : World, Low w → Lib.TabIs Tryd.prog w "strings.asciiSpace" .u8 Lib.asciiSpaceTab
def isSpN (b : Nat) : Bool := Nat.beq b 32 || (Nat.ble 9 b && Nat.ble b 13)
def fieldsN : List Nat → List Nat → List (List Nat)
  | cur, [] => match cur with
    | [] => []
    | c :: cs => [c :: cs]
  | cur, b :: l => match isSpN b with
    | true => match cur with
      | [] => fieldsN [] l
      | c :: cs => (c :: cs) :: fieldsN [] l
    | false => fieldsN (cur ++ [b]) l
theorem isSpN_eq (b : UInt8) : isSpN b.toNat = Lib.isSp b := by
  have h : ∀ n : _root_.Fin 256, isSpN (UInt8.ofNat n.val).toNat = Lib.isSp (UInt8.ofNat n.val) := by decide +kernel
  have := h ⟨b.toNat, b.toNat_lt⟩
  simpa using this
theorem fieldsN_eq : ∀ (l cur : List UInt8), fieldsN (cur.map UInt8.toNat) (l.map UInt8.toNat) = (Lib.fieldsGo cur l).map (·.map UInt8.toNat)
  | [], cur => by cases cur <;> simp [fieldsN, Lib.fieldsGo]
  | b :: l, cur => by
    simp only [List.map_cons, fieldsN, isSpN_eq]
    cases hb : Lib.isSp b
    · have := fieldsN_eq l (cur ++ [b])
      simp only [List.map_append, List.map_cons, List.map_nil] at this
      simp only [this, Lib.fieldsGo_more cur b l hb]
    · cases cur with
      | nil =>
        have := fieldsN_eq l []
        simp only [List.map_nil] at this ⊢
        rw [this, Lib.fieldsGo_sp b l hb]
      | cons c cs =>
        have := fieldsN_eq l []
        simp only [List.map_nil] at this
        simp only [List.map_cons]
        rw [this, Lib.fieldsGo_end (c :: cs) b l hb (by simp)]
        rfl
theorem cntF_le : ∀ (ws : Bool) (l : List UInt8), Lib.cntF ws l ≤ l.length
  | _, [] => Nat.le_refl _
  | ws, b :: l => by
    have := cntF_le (Lib.isSp b) l
    simp only [Lib.cntF, List.length_cons]
    split <;> omega
def fieldsC (ff : Nat) (et : TypeId) (call : CallF) : CallF := fun f args h nx =>
  match args with
  | [.str l] => match Nat.beq f ff && l.all (fun b => Nat.blt b 128) && Nat.ble l.length 1000000 with
    | true => some (.sl nx 0 (fieldsN [] l).length (fieldsN [] l).length 1, h.put nx ⟨(fieldsN [] l).map .str, et⟩, nx + 2)
    | false => call f args h nx
  | args => call f args h nx
theorem strs_rel {ρ : Ren} : ∀ l : List (List UInt8), VRL ρ ((l.map (·.map UInt8.toNat)).map AV.str) (l.map fun l => Value.string ⟨l.toArray⟩)
  | [] => .nil
  | a :: l => .cons _ _ _ _ (VR.str (ρ := ρ) ⟨a.toArray⟩) (strs_rel l)
section
variable [Glo] [Tab]
theorem fieldsC_ok {call : CallF} (C : CallOK Tryd.prog call) : CallOK Tryd.prog (fieldsC 55 9 call) := by
  refine ⟨?_, C.2⟩
  intro f args h nx v h' nx' hr ρ w cargs H F he hA
  unfold fieldsC at hr
  split at hr
  · rename_i l
    split at hr
    · rename_i hc
      simp only [Bool.and_eq_true] at hc
      obtain ⟨⟨c1, c2⟩, c3⟩ := hc
      have c1 := Nat.eq_of_beq_eq_true c1
      have c3 := Nat.ble_eq.mp c3
      subst c1
      injection hr with hr
      injection hr with e1 e2
      injection e2 with e2 e3
      subst e1 e2 e3
      rcases cargs with ⟨cl⟩
      simp only at hA
      cases hA with
      | cons _ b1 _ bs1 h1 hs1 =>
        cases hs1
        cases h1 with
        | str s =>
          have hlen : s.size ≤ 1000000 := by
            have : (s.data.toList.map UInt8.toNat).length = s.size := by simp
            omega
          have hasc : ∀ (j : Nat) b, s.data.toList[j]? = some b → b.toNat < 128 := fun j b hj => by
            have hm : b.toNat ∈ s.data.toList.map UInt8.toNat := List.mem_map_of_mem (List.mem_of_getElem? hj)
            exact of_eq_true_ (List.all_eq_true.1 c2 _ hm)
          refine ⟨Go.Proofs.YtdndcigppbhhdaaDoorMS.enter s w, (Go.Proofs.YtdndcigppbhhdaaDoorMS.fields s w (by omega) hasc (Tab.tab w H.low)).mono fun e w' hh => ?_⟩
          obtain ⟨rfl, rfl⟩ := hh
          have hf : fieldsN [] (s.data.toList.map UInt8.toNat) = (Lib.fields s.data.toList).map (·.map UInt8.toNat) := fieldsN_eq s.data.toList []
          have hid : ρ nx = none := F nx (Nat.le_refl _)
          have hcells : VRL ρ ((fieldsN [] (s.data.toList.map UInt8.toNat)).map AV.str) ((Lib.fields s.data.toList).map fun l => Value.string ⟨l.toArray⟩).toArray.toList := by
            rw [hf]
            exact strs_rel _
          have hk : (fieldsN [] (s.data.toList.map UInt8.toNat)).length = (Lib.fields s.data.toList).length := by rw [hf]; simp
          have hkl : (Lib.fields s.data.toList).length ≤ 1000001 := by
            rw [Lib.fields_length]
            exact Nat.le_trans (cntF_le _ _) (by simp; omega)
          refine ⟨_, ρ.up nx (w.heap.size, ((Lib.fields s.data.toList).map fun l => Value.string ⟨l.toArray⟩).toArray.size), rfl, ?_, ?_, Fr.up _ F (by omega) (by omega), by omega, ⟨Ag.up _ (Nat.le_refl _), ?_, by omega⟩⟩
          · rw [hk]
            exact .sl _ _ _ _ _ w.heap.size _ _ (Ren.up_self _ _ _) (Nat.le_refl _) (by simp) (by simp only [maxLen]; omega) (fun _ => rfl) (Nat.le_refl _)
          · rw [HF.get_put]
            exact H.alloc hid ⟨_, 9⟩ _ hcells
          · rw [HF.get_put]
            exact H.alloc_FR hid ⟨_, 9⟩ _
    · exact C.1 f _ h nx v h' nx' hr ρ w cargs H F he hA
  · exact C.1 f _ h nx v h' nx' hr ρ w cargs H F he hA
/-- Calls over what is known: summaries, Fields, memos. -/
def callF (ms : List Memo) (sm : Nat → Option Sm) (env : Nat → Option AFn) (fl : Nat) (n : Nat) : CallF :=
  Nat.rec (motive := fun _ => CallF) (fun _ _ _ _ => none) (fun _ ih => memoC (fieldsC 55 9 (known sm (fun f args h nx =>
    match env f with
    | none => none
    | some fn => match Nat.ble args.length fn.nt with
      | false => none
      | true => match exec ih fl fn.body ⟨argsT args 0 .e, h, nx⟩ with
        | some (.nor, s) => match resA s fn.res with
          | some v => some (v, s.hp, s.nx)
          | none => none
        | some (.ret, s) => match resA s fn.res with
          | some v => some (v, s.hp, s.nx)
          | none => none
        | _ => none))) ms) n
theorem callF_ok {ms : List Memo} (M : AllM Tryd.prog ms) {sm : Nat → Option Sm} (S : ∀ f s, sm f = some s → SmOK Tryd.prog f s) {env : Nat → Option AFn} (E : EnvOK Tryd.prog env) (hm : Tryd.prog.follows .mixedOrders = true) (fl : Nat) (X : XOK Tryd.prog) : ∀ n, CallOK Tryd.prog (callF ms sm env fl n)
  | 0 => ⟨fun f args h nx v h' nx' hr => by simp [callF] at hr, X⟩
  | n + 1 => memoC_ok (fieldsC_ok (known_ok (call_step E hm fl (callF_ok M S E hm fl X n)) S)) M
end
/-- The first world's blocks. -/
abbrev gloOf (W : World) : Glo := ⟨W.heap.size, fun b => W.heap[b]?⟩
theorem low_self (W : World) : @Low (gloOf W) W := ⟨Nat.le_refl _, fun _ _ => rfl⟩
theorem tabOf (W : World) (h : Lib.TabIs Tryd.prog W "strings.asciiSpace" .u8 Lib.asciiSpaceTab) : @Tab (gloOf W) := by
  refine @Tab.mk (gloOf W) fun w hL => ?_
  unfold Lib.TabIs World.var? at h ⊢
  rw [Go.Proofs.YtdndcigppbhhdaaDoorMS.hg] at h ⊢
  simp only [Option.bind_some] at h ⊢
  have hlt : 0 < W.heap.size := by
    rcases Nat.eq_zero_or_pos W.heap.size with h0 | h0
    · rw [Array.getElem?_eq_none (by omega)] at h
      simp at h
    · exact h0
  have := hL.2 0 hlt
  rw [this]
  exact h
#print axioms callF_ok
end
end Go.Proofs.YtdndcigppbhhdaaDoorAM
