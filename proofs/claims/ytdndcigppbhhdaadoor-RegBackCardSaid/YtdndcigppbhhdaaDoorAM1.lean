/-
  An interpreter over abstract values and an abstract heap, and what it means that a world is as the abstract state says. No program in sight. (text 1: values, tries, the relation)
-/
import Derived.Orders
import Derived.LoopN
import Derived.Below
import Derived.Maps.AppendAt
import Derived.Tactics
import Derived.Laws.Cells
import Derived.Laws.CopyRow
namespace Go.Proofs.YtdndcigppbhhdaaDoorAM
open Go.RowKit
noncomputable section

/-! ### 1. Abstract values -/
/-- A whole number that is not known, and what is known of it: its class by a divisor; that it is in none of some ranges. -/
inductive Num where
  | pk (n k : Nat)
  | off (l : List (Int × Int))
  | iv (lo hi : Int)
  deriving Inhabited
def Num.ok : Num → Int → Prop
  | .pk n k, x => 0 < n ∧ x % (n : Int) = k ∧ -9223372036854775808 ≤ x ∧ x ≤ 9223372036854775807
  | .off l, x => ∀ p ∈ l, ¬ (p.1 ≤ x ∧ x ≤ p.2)
  | .iv lo hi, x => lo ≤ x ∧ x ≤ hi ∧ -9223372036854775808 ≤ x ∧ x ≤ 9223372036854775807
inductive AV where
  | num (q : Num)
  | int (k : IntKind) (n : Int)
  | bool (b : Bool)
  | str (s : List Nat)
  | ptr (id off : Nat)
  | nilp
  | sl (id off n c e : Nat)
  | nils
  | agg (cs : List AV)
  | tup (vs : List AV)
  | fn (f : Nat) (fs cs : List AV)
  | nilfn
  deriving Inhabited

/-! ### 1b. Lists, by recursors -/
def dropS {α : Type} (n : Nat) (l : List α) : List α := Nat.rec (motive := fun _ => List α → List α) (fun l => l) (fun _ ih l => List.rec (motive := fun _ => List α) [] (fun _ t _ => ih t) l) n l
def dropQ {α : Type} (n : Nat) (l : List α) : List α := Nat.rec (motive := fun _ => List α) l (fun _ ih => dropS 64 ih) n
def dropF {α : Type} (n : Nat) (l : List α) : List α := dropS (Nat.mod n 64) (dropQ (Nat.div n 64) l)
def takeF {α : Type} (n : Nat) (l : List α) : List α := Nat.rec (motive := fun _ => List α → List α) (fun _ => []) (fun _ ih l => List.rec (motive := fun _ => List α) [] (fun a t _ => a :: ih t) l) n l
def getF {α : Type} (n : Nat) (l : List α) : Option α := List.rec (motive := fun _ => Option α) none (fun a _ _ => some a) (dropF n l)
theorem dropS_eq {α : Type} : ∀ (n : Nat) (l : List α), dropS n l = l.drop n
  | 0, _ => rfl
  | _ + 1, [] => rfl
  | n + 1, _ :: t => dropS_eq n t
theorem dropQ_eq {α : Type} : ∀ (n : Nat) (l : List α), dropQ n l = l.drop (64 * n)
  | 0, _ => rfl
  | n + 1, l => by
    show dropS 64 (dropQ n l) = _
    rw [dropS_eq, dropQ_eq n l, List.drop_drop]
    congr 1
theorem dropF_eq {α : Type} (n : Nat) (l : List α) : dropF n l = l.drop n := by
  show dropS (n % 64) (dropQ (n / 64) l) = _
  rw [dropS_eq, dropQ_eq, List.drop_drop]
  congr 1
  omega
theorem takeF_eq {α : Type} : ∀ (n : Nat) (l : List α), takeF n l = l.take n
  | 0, _ => rfl
  | _ + 1, [] => rfl
  | n + 1, a :: t => congrArg (List.cons a) (takeF_eq n t)
theorem getF_eq {α : Type} (n : Nat) (l : List α) : getF n l = l[n]? := by
  unfold getF
  rw [dropF_eq]
  have h : l[n]? = (l.drop n)[0]? := by simp
  rw [h]
  cases l.drop n <;> rfl

/-! ### 2. Tries -/
inductive T (α : Type) where
  | e
  | n (v : Option α) (l r : T α)
  deriving Inhabited

def T.get {α : Type} (t : T α) : Nat → Option α :=
  T.rec (motive := fun _ => Nat → Option α) (fun _ => none)
    (fun v _ _ gl gr i => Bool.rec (motive := fun _ => Option α) (Bool.rec (motive := fun _ => Option α) (gr (Nat.sub (Nat.div i 2) 1)) (gl (Nat.div i 2)) (Nat.beq (Nat.mod i 2) 1)) v (Nat.beq i 0)) t
theorem T.get_e {α : Type} (i : Nat) : (T.e : T α).get i = none := rfl
theorem T.get_n {α : Type} (v : Option α) (l r : T α) (i : Nat) : (T.n v l r).get i = match Nat.beq i 0 with
    | true => v
    | false => match Nat.beq (i % 2) 1 with
      | true => l.get (i / 2)
      | false => r.get (i / 2 - 1) := by
  show Bool.rec (motive := fun _ => Option α) (Bool.rec (motive := fun _ => Option α) (r.get (i / 2 - 1)) (l.get (i / 2)) (Nat.beq (i % 2) 1)) v (Nat.beq i 0) = _
  cases Nat.beq i 0 <;> cases Nat.beq (i % 2) 1 <;> rfl

def T.up {α : Type} (v : Option α) (d : Nat) : T α → Nat → T α :=
  Nat.rec (motive := fun _ => T α → Nat → T α) (fun t _ => t)
    (fun _ ih t i => T.rec (motive := fun _ => T α)
      (Bool.rec (motive := fun _ => T α) (Bool.rec (motive := fun _ => T α) (.n none .e (ih .e (Nat.sub (Nat.div i 2) 1))) (.n none (ih .e (Nat.div i 2)) .e) (Nat.beq (Nat.mod i 2) 1)) (.n v .e .e) (Nat.beq i 0))
      (fun u l r _ _ => Bool.rec (motive := fun _ => T α) (Bool.rec (motive := fun _ => T α) (.n u l (ih r (Nat.sub (Nat.div i 2) 1))) (.n u (ih l (Nat.div i 2)) r) (Nat.beq (Nat.mod i 2) 1)) (.n v l r) (Nat.beq i 0)) t) d
theorem T.up_e {α : Type} (v : Option α) (d i : Nat) : T.up v (d + 1) (.e : T α) i = match Nat.beq i 0 with
      | true => .n v .e .e
      | false => match Nat.beq (i % 2) 1 with
        | true => .n none (T.up v d .e (i / 2)) .e
        | false => .n none .e (T.up v d .e (i / 2 - 1)) := by
  show Bool.rec (motive := fun _ => T α) (Bool.rec (motive := fun _ => T α) (.n none .e (T.up v d .e (i / 2 - 1))) (.n none (T.up v d .e (i / 2)) .e) (Nat.beq (i % 2) 1)) (.n v .e .e) (Nat.beq i 0) = _
  cases Nat.beq i 0 <;> cases Nat.beq (i % 2) 1 <;> rfl
theorem T.up_n {α : Type} (v : Option α) (d : Nat) (u : Option α) (l r : T α) (i : Nat) : T.up v (d + 1) (.n u l r) i = match Nat.beq i 0 with
      | true => .n v l r
      | false => match Nat.beq (i % 2) 1 with
        | true => .n u (T.up v d l (i / 2)) r
        | false => .n u l (T.up v d r (i / 2 - 1)) := by
  show Bool.rec (motive := fun _ => T α) (Bool.rec (motive := fun _ => T α) (.n u l (T.up v d r (i / 2 - 1))) (.n u (T.up v d l (i / 2)) r) (Nat.beq (i % 2) 1)) (.n v l r) (Nat.beq i 0) = _
  cases Nat.beq i 0 <;> cases Nat.beq (i % 2) 1 <;> rfl

def T.put {α : Type} (t : T α) (i : Nat) (v : α) : T α := T.up (some v) (i + 1) t i
def T.del {α : Type} (t : T α) (i : Nat) : T α := T.up none (i + 1) t i

theorem T.get_up {α : Type} (v : Option α) : ∀ (d : Nat) (t : T α) (i j : Nat), i < d → (T.up v d t i).get j = if j = i then v else t.get j
  | 0, _, _, _, h => absurd h (by omega)
  | d + 1, t, i, j, h => by
    have key : ∀ (u : Option α) (l r : T α), (T.up v (d + 1) (.n u l r) i).get j = if j = i then v else (T.n u l r).get j := by
      intro u l r
      rw [T.up_n]
      cases h0 : Nat.beq i 0 with
      | true =>
        have hi : i = 0 := Nat.eq_of_beq_eq_true h0
        subst hi
        cases hj0 : Nat.beq j 0 with
        | true => have := Nat.eq_of_beq_eq_true hj0; subst this; simp [T.get_n]
        | false =>
          have hj : j ≠ 0 := Nat.ne_of_beq_eq_false hj0
          simp only [T.get_n, hj0, if_neg hj]
      | false =>
        have hi : i ≠ 0 := Nat.ne_of_beq_eq_false h0
        cases h1 : Nat.beq (i % 2) 1 with
        | true =>
          have hi1 : i % 2 = 1 := Nat.eq_of_beq_eq_true h1
          have ih := T.get_up v d l (i / 2) (j / 2) (by omega)
          simp only [T.get_n]
          cases hj0 : Nat.beq j 0 with
          | true => have := Nat.eq_of_beq_eq_true hj0; subst this; simp only; rw [if_neg (fun e => hi e.symm)]
          | false =>
            cases hj1 : Nat.beq (j % 2) 1 with
            | true =>
              have := Nat.eq_of_beq_eq_true hj1
              simp only
              rw [ih]
              by_cases e : j = i
              · rw [if_pos e, if_pos (by omega)]
              · rw [if_neg e, if_neg (by omega)]
            | false =>
              have := Nat.ne_of_beq_eq_false hj1
              simp only
              rw [if_neg (by omega)]
        | false =>
          have hi1 : i % 2 ≠ 1 := Nat.ne_of_beq_eq_false h1
          have ih := T.get_up v d r (i / 2 - 1) (j / 2 - 1) (by omega)
          simp only [T.get_n]
          cases hj0 : Nat.beq j 0 with
          | true => have := Nat.eq_of_beq_eq_true hj0; subst this; simp only; rw [if_neg (fun e => hi e.symm)]
          | false =>
            have hj : j ≠ 0 := Nat.ne_of_beq_eq_false hj0
            cases hj1 : Nat.beq (j % 2) 1 with
            | true =>
              have := Nat.eq_of_beq_eq_true hj1
              simp only
              rw [if_neg (by omega)]
            | false =>
              have := Nat.ne_of_beq_eq_false hj1
              simp only
              rw [ih]
              by_cases e : j = i
              · rw [if_pos e, if_pos (by omega)]
              · rw [if_neg e, if_neg (by omega)]
    cases t with
    | n u l r => exact key u l r
    | e =>
      have h2 : (T.up v (d + 1) (.e : T α) i) = T.up v (d + 1) (.n none .e .e) i := by
        rw [T.up_e, T.up_n]
      have h3 : (T.n none .e .e : T α).get j = (T.e : T α).get j := by
        simp only [T.get_n, T.get_e]
        split <;> (try rfl)
        split <;> rfl
      rw [h2, key, h3]

theorem T.get_put {α : Type} (t : T α) (i j : Nat) (v : α) : (t.put i v).get j = if j = i then some v else t.get j := T.get_up (some v) (i + 1) t i j (by omega)
theorem T.get_del {α : Type} (t : T α) (i j : Nat) : (t.del i).get j = if j = i then none else t.get j := T.get_up none (i + 1) t i j (by omega)

/-! ### 3. What values and heaps stand for. R: an id's block and that block's size -/
abbrev Ren := Nat → Option (Nat × Nat)

mutual
inductive VR (ρ : Ren) : AV → Value → Prop
  | num (q : Num) (x : Int) (h : q.ok x) : VR ρ (.num q) (.int .i64 x)
  | int (k : IntKind) (n : Int) : VR ρ (.int k n) (.int k n)
  | bool (b : Bool) : VR ρ (.bool b) (.bool b)
  | str (s : ByteArray) : VR ρ (.str (s.data.toList.map UInt8.toNat)) (.string s)
  | ptr (id off b t : Nat) (h : ρ id = some (b, t)) : VR ρ (.ptr id off) (.pointer (some ⟨b, off, none⟩))
  | nilp : VR ρ .nilp (.pointer none)
  | sl (id off n c e b t c' : Nat) (h : ρ id = some (b, t)) (hc : c ≤ c') (ht : off + c' * e = t) (hm : c' ≤ maxLen) (he : id % 2 = 0 → c = c') (hn : n ≤ c) : VR ρ (.sl id off n c e) (.slice (some ⟨b, off, none⟩) n c')
  | nils : VR ρ .nils (.slice none 0 0)
  | agg (as : List AV) (bs : Array Value) (h : VRL ρ as bs.toList) : VR ρ (.agg as) (.agg bs)
  | tup (as : List AV) (bs : Array Value) (h : VRL ρ as bs.toList) : VR ρ (.tup as) (.tuple bs)
  | fn (f : Nat) (fs cs : List AV) (fs' cs' : Array Value) (h1 : VRL ρ fs fs'.toList) (h2 : VRL ρ cs cs'.toList) : VR ρ (.fn f fs cs) (.func (.func f) fs' cs')
  | nilfn : VR ρ .nilfn .nilFunc
inductive VRL (ρ : Ren) : List AV → List Value → Prop
  | nil : VRL ρ [] []
  | cons (a : AV) (b : Value) (as : List AV) (bs : List Value) (h : VR ρ a b) (hs : VRL ρ as bs) : VRL ρ (a :: as) (b :: bs)
end

/-- ρ' knows what ρ knows. -/
def Ext (ρ ρ' : Ren) : Prop := ∀ id p, ρ id = some p → ρ' id = some p
theorem Ext.refl (ρ : Ren) : Ext ρ ρ := fun _ _ h => h
theorem Ext.trans {a b c : Ren} (h : Ext a b) (k : Ext b c) : Ext a c := fun id p e => k id p (h id p e)

mutual
theorem VR.ext {ρ ρ' : Ren} (h : Ext ρ ρ') : ∀ {a : AV} {v : Value}, VR ρ a v → VR ρ' a v
  | _, _, .num q x h => .num q x h
  | _, _, .int k n => .int k n
  | _, _, .bool b => .bool b
  | _, _, .str s => .str s
  | _, _, .ptr id off b t e => .ptr id off b t (h id _ e)
  | _, _, .nilp => .nilp
  | _, _, .sl id off n c e b t c' hb hc ht hm he hn => .sl id off n c e b t c' (h id _ hb) hc ht hm he hn
  | _, _, .nils => .nils
  | _, _, .agg as bs hs => .agg as bs (VRL.ext h hs)
  | _, _, .tup as bs hs => .tup as bs (VRL.ext h hs)
  | _, _, .fn f fs cs fs' cs' h1 h2 => .fn f fs cs fs' cs' (VRL.ext h h1) (VRL.ext h h2)
  | _, _, .nilfn => .nilfn
theorem VRL.ext {ρ ρ' : Ren} (h : Ext ρ ρ') : ∀ {as : List AV} {vs : List Value}, VRL ρ as vs → VRL ρ' as vs
  | _, _, .nil => .nil
  | _, _, .cons a b as bs e es => .cons a b as bs (VR.ext h e) (VRL.ext h es)
end

theorem VRL.length {ρ : Ren} : ∀ {as : List AV} {vs : List Value}, VRL ρ as vs → as.length = vs.length
  | _, _, .nil => rfl
  | _, _, .cons _ _ _ _ _ hs => by simp [VRL.length hs]
theorem VRL.append {ρ : Ren} : ∀ {as as' : List AV} {vs vs' : List Value}, VRL ρ as vs → VRL ρ as' vs' → VRL ρ (as ++ as') (vs ++ vs')
  | _, _, _, _, .nil, h => h
  | _, _, _, _, .cons a b as bs e es, h => .cons a b _ _ e (VRL.append es h)
theorem VRL.take {ρ : Ren} : ∀ {as : List AV} {vs : List Value} (n : Nat), VRL ρ as vs → VRL ρ (as.take n) (vs.take n)
  | _, _, 0, _ => by simpa using VRL.nil
  | _, _, _ + 1, .nil => .nil
  | _, _, n + 1, .cons a b as bs e es => .cons a b _ _ e (VRL.take n es)
theorem VRL.drop {ρ : Ren} : ∀ {as : List AV} {vs : List Value} (n : Nat), VRL ρ as vs → VRL ρ (as.drop n) (vs.drop n)
  | _, _, 0, h => h
  | _, _, _ + 1, .nil => .nil
  | _, _, n + 1, .cons _ _ _ _ _ es => VRL.drop n es
theorem VRL.get {ρ : Ren} : ∀ {as : List AV} {vs : List Value} (i : Nat) (a : AV), VRL ρ as vs → as[i]? = some a → ∃ v, vs[i]? = some v ∧ VR ρ a v
  | _, _, i, a, .nil, h => by simp at h
  | _, _, 0, a, .cons a' b as bs e es, h => by
    simp at h
    subst h
    exact ⟨b, rfl, e⟩
  | _, _, i + 1, a, .cons a' b as bs e es, h => by
    obtain ⟨v, h1, h2⟩ := VRL.get i a es (by simpa using h)
    exact ⟨v, by simpa using h1, h2⟩
theorem VRL.replicate {ρ : Ren} {a : AV} {v : Value} (h : VR ρ a v) : ∀ n, VRL ρ (List.replicate n a) (List.replicate n v)
  | 0 => .nil
  | n + 1 => .cons a v _ _ h (VRL.replicate h n)

/-- One cell's value. -/
def AV.one : AV → Bool
  | .agg _ | .tup _ => false
  | _ => true
theorem VR.one {ρ : Ren} {a : AV} {v : Value} (h : VR ρ a v) (ha : a.one = true) : v.oneCell' = true := by
  cases h <;> first | rfl | simp [AV.one] at ha
def AV.cells : AV → List AV
  | .agg cs => cs
  | v => [v]
theorem VR.cells {ρ : Ren} {a : AV} {v : Value} (h : VR ρ a v) : VRL ρ a.cells v.cells.toList := by
  cases h with
  | agg as bs h => exact h
  | num q x h => exact .cons _ _ _ _ (.num q x h) .nil
  | int k n => exact .cons _ _ _ _ (.int k n) .nil
  | bool b => exact .cons _ _ _ _ (.bool b) .nil
  | str s => exact .cons _ _ _ _ (.str s) .nil
  | ptr id off b t e => exact .cons _ _ _ _ (.ptr id off b t e) .nil
  | nilp => exact .cons _ _ _ _ .nilp .nil
  | sl id off n c e b t c' hb hc ht hm he hn => exact .cons _ _ _ _ (.sl id off n c e b t c' hb hc ht hm he hn) .nil
  | nils => exact .cons _ _ _ _ .nils .nil
  | tup as bs h => exact .cons _ _ _ _ (.tup as bs h) .nil
  | fn f fs cs fs' cs' h1 h2 => exact .cons _ _ _ _ (.fn f fs cs fs' cs' h1 h2) .nil
  | nilfn => exact .cons _ _ _ _ .nilfn .nil
theorem VRL.ones {ρ : Ren} : ∀ {as : List AV} {vs : List Value}, VRL ρ as vs → as.all AV.one = true → ∀ v ∈ vs, v.oneCell' = true
  | _, _, .nil, _, v, hv => by simp at hv
  | _, _, .cons a b as bs e es, ha, v, hv => by
    simp at ha
    rcases List.mem_cons.1 hv with rfl | hv
    · exact e.one ha.1
    · exact VRL.ones es (by simpa using ha.2) v hv

/-- The blocks below n are as they were laid. -/
class Glo where
  n : Nat
  f : Nat → Option Obj
section
variable [Glo]
def Low (w : World) : Prop := Glo.n ≤ w.heap.size ∧ ∀ b, b < Glo.n → w.heap[b]? = Glo.f b

structure Blk where
  cells : List AV
  elem : TypeId
  deriving Inhabited

abbrev HF := Nat → Option Blk

/-- World w is as the abstract heap h says, by ρ. -/
structure HR (ρ : Ren) (h : HF) (w : World) : Prop where
  at_ : ∀ id blk, h id = some blk → ∃ b c, ρ id = some (b, c.size) ∧ w.heap[b]? = some (.cells c blk.elem (0, 0)) ∧ blk.cells.length ≤ c.size ∧ (id % 2 = 0 → blk.cells.length = c.size) ∧ VRL ρ blk.cells (c.toList.take blk.cells.length)
  inj : ∀ id id' p p', (h id).isSome → (h id').isSome → ρ id = some p → ρ id' = some p' → p.1 = p'.1 → id = id'
  lo : ∀ id p, (h id).isSome → ρ id = some p → Glo.n ≤ p.1
  low : Low w

/-- Fewer blocks told. -/
theorem HR.less {ρ : Ren} {h h' : HF} {w : World} (H : HR ρ h w) (hh : ∀ id blk, h' id = some blk → h id = some blk) : HR ρ h' w :=
  ⟨fun id blk e => H.at_ id blk (hh id blk e), fun id id' p p' h1 h2 => H.inj id id' p p'
    (by obtain ⟨b, hb⟩ := Option.isSome_iff_exists.1 h1; simp [hh id b hb]) (by obtain ⟨b, hb⟩ := Option.isSome_iff_exists.1 h2; simp [hh id' b hb]),
    fun id p h1 => H.lo id p (by obtain ⟨b, hb⟩ := Option.isSome_iff_exists.1 h1; simp [hh id b hb]), H.low⟩

/-- What is not told of has not turned. -/
structure FR (ρ : Ren) (h : HF) (w : World) (ρ' : Ren) (h' : HF) (w' : World) : Prop where
  os : w'.os = w.os
  tape : w'.tape = w.tape
  output : w'.output = w.output
  size : w.heap.size ≤ w'.heap.size
  keep : ∀ b, b < w.heap.size → (∀ id p, (h id).isSome → ρ id = some p → p.1 ≠ b) → w'.heap[b]? = w.heap[b]?
  img : ∀ id, (h' id).isSome → ∃ p, ρ' id = some p ∧ ((∃ id0 p0, (h id0).isSome ∧ ρ id0 = some p0 ∧ p0.1 = p.1) ∨ w.heap.size ≤ p.1)

theorem HR.known {ρ : Ren} {h : HF} {w : World} (H : HR ρ h w) {id : Nat} (hid : (h id).isSome) : ∃ p, ρ id = some p := by
  obtain ⟨blk, hb⟩ := Option.isSome_iff_exists.1 hid
  obtain ⟨b, c, h1, _⟩ := H.at_ id blk hb
  exact ⟨_, h1⟩
theorem HR.lt {ρ : Ren} {h : HF} {w : World} (H : HR ρ h w) {id : Nat} {p : Nat × Nat} (hid : (h id).isSome) (hp : ρ id = some p) : p.1 < w.heap.size := by
  obtain ⟨blk, hb⟩ := Option.isSome_iff_exists.1 hid
  obtain ⟨b, c, h1, h2, _⟩ := H.at_ id blk hb
  rw [hp] at h1
  injection h1 with h1
  subst h1
  exact (Array.getElem?_eq_some_iff.1 h2).1

theorem FR.refl {ρ : Ren} {h h' : HF} {w : World} (H : HR ρ h w) (hh : ∀ id, (h' id).isSome → (h id).isSome) : FR ρ h w ρ h' w :=
  ⟨rfl, rfl, rfl, Nat.le_refl _, fun _ _ _ => rfl, fun id hid => by
    obtain ⟨p, hp⟩ := H.known (hh id hid)
    exact ⟨p, hp, .inl ⟨id, p, hh id hid, hp, rfl⟩⟩⟩

end

theorem FR.trans {ρ ρ' ρ'' : Ren} {h h' h'' : HF} {w w' w'' : World} (A : FR ρ h w ρ' h' w') (B : FR ρ' h' w' ρ'' h'' w'') : FR ρ h w ρ'' h'' w'' where
  os := B.os.trans A.os
  tape := B.tape.trans A.tape
  output := B.output.trans A.output
  size := Nat.le_trans A.size B.size
  keep := fun b hb hk => by
    rw [B.keep b (Nat.lt_of_lt_of_le hb A.size) ?_, A.keep b hb hk]
    intro id p hid hp heq
    obtain ⟨p', hp', hor⟩ := A.img id hid
    rw [hp] at hp'
    injection hp' with hp'
    subst hp'
    rcases hor with ⟨id0, p0, h0, hr0, he⟩ | hge
    · exact hk id0 p0 h0 hr0 (he.trans heq)
    · omega
  img := fun id hid => by
    obtain ⟨p, hp, hor⟩ := B.img id hid
    refine ⟨p, hp, ?_⟩
    rcases hor with ⟨id0, p0, h0, hr0, he⟩ | hge
    · obtain ⟨p', hp', hor'⟩ := A.img id0 h0
      rw [hr0] at hp'
      injection hp' with hp'
      subst hp'
      rcases hor' with ⟨id1, p1, h1, hr1, he1⟩ | hge'
      · exact .inl ⟨id1, p1, h1, hr1, he1.trans he⟩
      · exact .inr (by omega)
    · exact .inr (Nat.le_trans A.size hge)

theorem FR.below {ρ ρ' : Ren} {h h' : HF} {w w' : World} (A : FR ρ h w ρ' h' w') (h0 : ∀ id, h id = none) : Below w.heap.size w w' :=
  ⟨A.os, A.tape, A.output, A.size, fun k hk => A.keep k hk (fun id p hid _ => by rw [h0 id] at hid; simp at hid)⟩

/-- Below nx the two agree; from nx on the first says nothing. -/
def Ag (nx : Nat) (ρ ρ' : Ren) : Prop := ∀ id, id < nx → ρ' id = ρ id
def Fr (ρ : Ren) (nx : Nat) : Prop := ∀ id, nx ≤ id → ρ id = none
theorem Ag.refl (nx : Nat) (ρ : Ren) : Ag nx ρ ρ := fun _ _ => rfl
theorem Ag.trans {nx nx' : Nat} {a b c : Ren} (h : Ag nx a b) (k : Ag nx' b c) (hn : nx ≤ nx') : Ag nx a c := fun id hid => (k id (by omega)).trans (h id hid)
theorem Ag.ext {nx : Nat} {ρ ρ' : Ren} (h : Ag nx ρ ρ') (f : Fr ρ nx) : Ext ρ ρ' := fun id p e => by
  rcases Nat.lt_or_ge id nx with hl | hg
  · rw [h id hl]
    exact e
  · rw [f id hg] at e
    cases e

/-- The slots of a frame. -/
def AR (ρ : Ren) (tm : T AV) (tmps : Array Value) : Prop := ∀ t v, tm.get t = some v → t < tmps.size ∧ VR ρ v (tmps.getD t undef)
theorem AR.ext {ρ ρ' : Ren} (h : Ext ρ ρ') {tm : T AV} {tmps : Array Value} (A : AR ρ tm tmps) : AR ρ' tm tmps := fun t v e => ⟨(A t v e).1, (A t v e).2.ext h⟩

end
end Go.Proofs.YtdndcigppbhhdaaDoorAM
