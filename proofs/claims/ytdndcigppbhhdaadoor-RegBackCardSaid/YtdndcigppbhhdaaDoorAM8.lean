/-
  The interpreter over abstract values: a region that draws its order, run once in the text's order: definitions, and what one run says of each operation. (text 8)
-/
import Derived.Test.YtdndcigppbhhdaaDoorAM7
namespace Go.Proofs.YtdndcigppbhhdaaDoorAM
open Go.RowKit
set_option linter.unusedSimpArgs false
set_option linter.unusedVariables false
noncomputable section

/-! ### 16. Values alike -/
def AV.same1 : AV → AV → Bool
  | .num (.pk n k), .num (.pk n' k') => Nat.beq n n' && Nat.beq k k'
  | .num (.iv a b), .num (.iv a' b') => decide (a = a') && decide (b = b')
  | .num (.off l), .num (.off l') => decide (l = l')
  | .int k n, .int k' n' => decide (k = k') && decide (n = n')
  | .bool b, .bool b' => b == b'
  | .str s, .str s' => s == s'
  | .ptr i o, .ptr i' o' => Nat.beq i i' && Nat.beq o o'
  | .nilp, .nilp => true
  | .sl i o n c e, .sl i' o' n' c' e' => Nat.beq i i' && Nat.beq o o' && Nat.beq n n' && Nat.beq c c' && Nat.beq e e'
  | .nils, .nils => true
  | .nilfn, .nilfn => true
  | .fn f [] [], .fn f' [] [] => Nat.beq f f'
  | _, _ => false
def AV.sames : List AV → List AV → Bool
  | [], [] => true
  | a :: as, b :: bs => AV.same1 a b && AV.sames as bs
  | _, _ => false
def AV.same : AV → AV → Bool
  | .agg as, .agg bs => AV.sames as bs
  | .tup as, .tup bs => AV.sames as bs
  | .fn f a b, .fn f' a' b' => Nat.beq f f' && AV.sames a a' && AV.sames b b'
  | a, b => AV.same1 a b
theorem AV.same1_eq {a b : AV} (h : AV.same1 a b = true) : a = b := by
  unfold AV.same1 at h
  split at h <;> simp_all
theorem AV.sames_eq [Glo] : ∀ {as bs : List AV}, AV.sames as bs = true → as = bs
  | [], [], _ => rfl
  | a :: as, b :: bs, h => by
    simp only [AV.sames, Bool.and_eq_true] at h
    rw [AV.same1_eq h.1, AV.sames_eq h.2]
  | [], _ :: _, h => by simp [AV.sames] at h
  | _ :: _, [], h => by simp [AV.sames] at h
theorem AV.same_eq [Glo] {a b : AV} (h : AV.same a b = true) : a = b := by
  unfold AV.same at h
  split at h
  · rw [AV.sames_eq h]
  · rw [AV.sames_eq h]
  · simp only [Bool.and_eq_true] at h
    rw [Nat.eq_of_beq_eq_true h.1.1, AV.sames_eq h.1.2, AV.sames_eq h.2]
  · exact AV.same1_eq h
abbrev LI := Bool × Nat × Nat × Nat
def LI.at_ (i : LI) (B : T Blk) : Option AV := loadAt B.get i.1 i.2.1 i.2.2.1 i.2.2.2
def LI.same (i : LI) (B B' : T Blk) : Bool := match i.at_ B, i.at_ B' with
  | some a, some b => AV.same a b
  | _, _ => false
theorem LI.same_eq [Glo] {i : LI} {B B' : T Blk} (h : i.same B B' = true) : i.at_ B = i.at_ B' := by
  unfold LI.same at h
  split at h
  · rename_i a b h1 h2
    rw [h1, h2, AV.same_eq h]
  · cases h

/-! ### 17. The run -/
structure DS where
  i : Nat
  tm : T AV
  B : T Blk
  nx : Nat
  al : List (Nat × Blk)
  ld : List (Nat × LI)
  ef : List (Nat × T Blk × T Blk)

def restr (tm : T AV) : List Nat → T AV
  | [] => .e
  | t :: ts => match tm.get t with
    | some v => (restr tm ts).put t v
    | none => restr tm ts
theorem restr_get {tm : T AV} : ∀ {ts : List Nat} {t : Nat} {v : AV}, (restr tm ts).get t = some v → t ∈ ts ∧ tm.get t = some v
  | [], t, v, h => by simp [restr, T.get_e] at h
  | u :: ts, t, v, h => by
    simp only [restr] at h
    split at h
    · rename_i x hx
      rw [T.get_put] at h
      split at h
      · rename_i e
        subst e
        injection h with h
        subst h
        exact ⟨by simp, hx⟩
      · have := restr_get h
        exact ⟨by simp [this.1], this.2⟩
    · have := restr_get h
      exact ⟨by simp [this.1], this.2⟩
def addp (base : Nat) : List (Nat × Blk) → T Blk → T Blk
  | [], B => B
  | (i, b) :: l, B => (addp base l B).put (base + 2 * i) b
theorem addp_get {base : Nat} {B : T Blk} : ∀ {l : List (Nat × Blk)} {id : Nat} {b : Blk}, (addp base l B).get id = some b → (∃ i, (i, b) ∈ l ∧ id = base + 2 * i) ∨ ((∀ i c, (i, c) ∈ l → id ≠ base + 2 * i) ∧ B.get id = some b)
  | [], id, b, h => .inr ⟨fun i c h => by simp at h, h⟩
  | (i, c) :: l, id, b, h => by
    simp only [addp, T.get_put] at h
    split at h
    · rename_i e
      injection h with h
      subst h
      exact .inl ⟨i, by simp, e⟩
    · rename_i hne
      rcases addp_get h with ⟨j, h1, h2⟩ | ⟨h1, h2⟩
      · exact .inl ⟨j, by simp [h1], h2⟩
      · refine .inr ⟨fun j d hj => ?_, h2⟩
        rcases List.mem_cons.1 hj with hj | hj
        · injection hj with hj _
          subst hj
          exact hne
        · exact h1 j d hj

def dStep (call : CallF) (base : Nat) (o : AOp) (s : DS) : Option DS :=
  match wantA (restr s.tm o.need) o.gd with
  | none => none
  | some false => some { s with i := s.i + 1, tm := putA s.tm o.dst undefA }
  | some true => match o.k with
    | .p k => match k.ev (restr s.tm o.need) with
      | some v => some { s with i := s.i + 1, tm := putA s.tm o.dst v }
      | none => none
    | .k k => match k.ev (restr s.tm o.need) with
      | some (blk, ld) => some { s with i := s.i + 1, tm := putA s.tm o.dst (lead (base + 2 * s.i) ld), al := (s.i, blk) :: s.al }
      | none => none
    | .l k => match k.x.ev (restr s.tm o.need) with
      | some (.ptr id off) => match Nat.blt id base with
        | true => match LI.at_ (k.agg, k.sz, id, off) s.B with
          | some v => match s.ef.all (fun e => o.anc.testBit e.1 || LI.same (k.agg, k.sz, id, off) e.2.1 e.2.2) with
            | true => some { s with i := s.i + 1, tm := putA s.tm o.dst v, ld := (s.i, (k.agg, k.sz, id, off)) :: s.ld }
            | false => none
          | none => none
        | false => none
      | _ => none
    | k => match s.ef.all (fun e => o.anc.testBit e.1) with
      | true => match effA call k (restr s.tm o.need) (addp base (s.al.filter fun p => o.anc.testBit p.1) s.B) s.nx with
        | some (v, B, nx) => match s.ld.all (fun l => o.anc.testBit l.1 || LI.same l.2 s.B B) with
          | true => some ⟨s.i + 1, putA s.tm o.dst v, B, nx, s.al.filter (fun p => !o.anc.testBit p.1), s.ld, (s.i, s.B, B) :: s.ef⟩
          | false => none
        | none => none
      | false => none
def runD (call : CallF) (base : Nat) : List AOp → DS → Option DS
  | [], s => some s
  | o :: os, s => match dStep call base o s with
    | some s' => runD call base os s'
    | none => none
def runDr (call : CallF) (os : List AOp) (s : St) : Option St :=
  match runD call s.nx os ⟨0, s.tm, s.hp, s.nx + 2 * os.length, [], [], []⟩ with
  | some d => some ⟨d.tm, addp s.nx d.al d.B, d.nx⟩
  | none => none

def OK.isE : OK → Bool
  | .s _ | .g _ | .c _ _ | .v _ | .x _ => true
  | _ => false

inductive DC (call : CallF) (base : Nat) (o : AOp) (s s' : DS) (v : AV) : Prop
  | sk (hw : wantA (restr s.tm o.need) o.gd = some false) (hv : v = undefA) (e1 : s'.B = s.B) (e2 : s'.nx = s.nx) (e3 : s'.al = s.al) (e4 : s'.ld = s.ld) (e5 : s'.ef = s.ef)
  | p (hw : wantA (restr s.tm o.need) o.gd = some true) (k : PK) (hk : o.k = .p k) (hv : k.ev (restr s.tm o.need) = some v) (e1 : s'.B = s.B) (e2 : s'.nx = s.nx) (e3 : s'.al = s.al) (e4 : s'.ld = s.ld) (e5 : s'.ef = s.ef)
  | k (hw : wantA (restr s.tm o.need) o.gd = some true) (k : KK) (hk : o.k = .k k) (blk : Blk) (ld : Option (Nat × Nat × Nat)) (hv : k.ev (restr s.tm o.need) = some (blk, ld)) (hl : v = lead (base + 2 * s.i) ld) (e1 : s'.B = s.B) (e2 : s'.nx = s.nx) (e3 : s'.al = (s.i, blk) :: s.al) (e4 : s'.ld = s.ld) (e5 : s'.ef = s.ef)
  | l (hw : wantA (restr s.tm o.need) o.gd = some true) (k : LK) (hk : o.k = .l k) (id off : Nat) (hx : k.x.ev (restr s.tm o.need) = some (.ptr id off)) (hid : id < base) (hv : LI.at_ (k.agg, k.sz, id, off) s.B = some v)
      (hc : ∀ e ∈ s.ef, o.anc.testBit e.1 = true ∨ LI.at_ (k.agg, k.sz, id, off) e.2.1 = LI.at_ (k.agg, k.sz, id, off) e.2.2) (e1 : s'.B = s.B) (e2 : s'.nx = s.nx) (e3 : s'.al = s.al) (e4 : s'.ld = (s.i, (k.agg, k.sz, id, off)) :: s.ld) (e5 : s'.ef = s.ef)
  | e (hw : wantA (restr s.tm o.need) o.gd = some true) (hk : o.k.isE = true) (hv : effA call o.k (restr s.tm o.need) (addp base (s.al.filter fun p => o.anc.testBit p.1) s.B) s.nx = some (v, s'.B, s'.nx))
      (h1 : ∀ e ∈ s.ef, o.anc.testBit e.1 = true) (h2 : ∀ l ∈ s.ld, o.anc.testBit l.1 = true ∨ l.2.at_ s.B = l.2.at_ s'.B) (e3 : s'.al = s.al.filter (fun p => !o.anc.testBit p.1)) (e4 : s'.ld = s.ld) (e5 : s'.ef = (s.i, s.B, s'.B) :: s.ef)

theorem dStep_DC [Glo] {call : CallF} {base : Nat} {o : AOp} {s s' : DS} (h : dStep call base o s = some s') : ∃ v, s'.tm = putA s.tm o.dst v ∧ s'.i = s.i + 1 ∧ DC call base o s s' v := by
  unfold dStep at h
  split at h
  · cases h
  · rename_i hw
    injection h with h
    subst h
    exact ⟨undefA, rfl, rfl, .sk hw rfl rfl rfl rfl rfl rfl⟩
  · rename_i hw
    split at h
    · rename_i k hk
      split at h
      · rename_i v hv
        injection h with h
        subst h
        exact ⟨v, rfl, rfl, .p hw k hk hv rfl rfl rfl rfl rfl⟩
      · cases h
    · rename_i k hk
      split at h
      · rename_i blk ld hv
        injection h with h
        subst h
        exact ⟨_, rfl, rfl, .k hw k hk blk ld hv rfl rfl rfl rfl rfl rfl⟩
      · cases h
    · rename_i k hk
      split at h
      · rename_i id off hx
        split at h
        · rename_i hid
          split at h
          · rename_i v hv
            split at h
            · rename_i hc
              injection h with h
              subst h
              refine ⟨v, rfl, rfl, .l hw k hk id off hx (of_eq_true_ hid) hv (fun e he => ?_) rfl rfl rfl rfl rfl⟩
              have := List.all_eq_true.1 hc e he
              simp only [Bool.or_eq_true] at this
              exact this.imp (fun h => h) LI.same_eq
            · cases h
          · cases h
        · cases h
      · cases h
    · rename_i k hk1 hk2 hk3
      split at h
      · rename_i h1
        split at h
        · rename_i v B nx hv
          split at h
          · rename_i h2
            injection h with h
            subst h
            refine ⟨v, rfl, rfl, .e hw ?_ hv (fun e he => List.all_eq_true.1 h1 e he) (fun l hl => ?_) rfl rfl rfl⟩
            · cases hok : o.k with
              | p k => exact absurd hok (hk1 k)
              | k k => exact absurd hok (hk2 k)
              | l k => exact absurd hok (hk3 k)
              | st =>
                rw [hok] at hv
                simp [effA] at hv
              | _ => rfl
            · have := List.all_eq_true.1 h2 l hl
              simp only [Bool.or_eq_true] at this
              exact this.imp (fun h => h) LI.same_eq
          · cases h
        · cases h
      · cases h

/-- The states that the run goes through. -/
theorem runD_states {call : CallF} {base : Nat} : ∀ {os : List AOp} {s s' : DS}, runD call base os s = some s' → ∃ D : Nat → DS, D 0 = s ∧ D os.length = s' ∧ ∀ i o, os[i]? = some o → dStep call base o (D i) = some (D (i + 1))
  | [], s, s', h => by
    simp only [runD, Option.some.injEq] at h
    exact ⟨fun _ => s, rfl, h, fun i o hi => by simp at hi⟩
  | o :: os, s, s', h => by
    simp only [runD] at h
    split at h
    · rename_i s1 h1
      obtain ⟨D, d0, d1, d2⟩ := runD_states h
      refine ⟨fun n => match n with | 0 => s | n + 1 => D n, rfl, by simpa using d1, fun i o' hi => ?_⟩
      cases i with
      | zero =>
        simp at hi
        subst hi
        simp only
        rw [d0]
        exact h1
      | succ i => exact d2 i o' (by simpa using hi)
    · cases h
end
end Go.Proofs.YtdndcigppbhhdaaDoorAM
