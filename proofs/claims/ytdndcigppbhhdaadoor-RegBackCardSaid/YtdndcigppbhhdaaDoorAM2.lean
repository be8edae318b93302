/-
  The interpreter over abstract values: operations that only compute, and that they are what the machine does. (text 2)
-/
import Derived.Test.YtdndcigppbhhdaaDoorAM1
namespace Go.Proofs.YtdndcigppbhhdaaDoorAM
open Go.RowKit
set_option linter.unusedSimpArgs false
set_option linter.unusedVariables false
noncomputable section

/-! ### 4. Constants, types -/
def avOf : Value → Option AV
  | .int k n => some (.int k n)
  | .bool b => some (.bool b)
  | .string s => some (.str (s.data.toList.map UInt8.toNat))
  | .pointer none => some .nilp
  | .slice none 0 0 => some .nils
  | .nilFunc => some .nilfn
  | _ => none
theorem avOf_sound {v : Value} {a : AV} (h : avOf v = some a) (ρ : Ren) : VR ρ a v := by
  unfold avOf at h
  split at h <;> first | (injection h with h; subst h; first | exact .int _ _ | exact .bool _ | exact .str _ | exact .nilp | exact .nils | exact .nilfn) | cases h
def avsOf : List Value → Option (List AV)
  | [] => some []
  | v :: vs => match avOf v, avsOf vs with
    | some a, some as => some (a :: as)
    | _, _ => none
theorem avsOf_sound : ∀ {vs : List Value} {as : List AV}, avsOf vs = some as → ∀ ρ : Ren, VRL ρ as vs
  | [], as, h, ρ => by
    simp [avsOf] at h
    subst h
    exact .nil
  | v :: vs, as, h, ρ => by
    simp only [avsOf] at h
    split at h
    · rename_i a as' h1 h2
      injection h with h
      subst h
      exact .cons _ _ _ _ (avOf_sound h1 ρ) (avsOf_sound h2 ρ)
    · cases h

/-- A type as the interpreter asks for it. -/
structure TyA where
  size : Nat
  bytes : Nat
  zero : Option (List AV)
  agg : Bool
  d : TypeDesc
def aggD : TypeDesc → Bool
  | .struct _ | .array _ _ => true
  | _ => false
def tyOf (P : Program) (t : TypeId) : Option TyA :=
  match P.info? t, P.underlying t with
  | some i, some d => some ⟨i.size, i.bytes, i.zero.bind fun z => avsOf z.cells.toList, aggD d, d⟩
  | _, _ => none
structure TyOK (P : Program) (t : TypeId) (a : TyA) : Prop where
  info : ∃ i, P.info? t = some i ∧ i.size = a.size ∧ i.bytes = a.bytes ∧ ∀ zs, a.zero = some zs → ∃ z, i.zero = some z ∧ ∀ ρ : Ren, VRL ρ zs z.cells.toList
  und : P.underlying t = some a.d
  agg : a.agg = aggD a.d
theorem tyOf_ok {P : Program} {t : TypeId} {a : TyA} (h : tyOf P t = some a) : TyOK P t a := by
  unfold tyOf at h
  split at h
  · rename_i i d hi hd
    injection h with h
    subst h
    refine ⟨⟨i, hi, rfl, rfl, fun zs hz => ?_⟩, hd, rfl⟩
    simp only [Option.bind_eq_some_iff] at hz
    obtain ⟨z, hz1, hz2⟩ := hz
    exact ⟨z, hz1, avsOf_sound hz2⟩
  · cases h
section
variable {P : Program} {t : TypeId} {a : TyA} (h : TyOK P t a) (w : World)
include h
theorem TyOK.run_und : (underlying t).run P w = .ok a.d w := run_underlying h.und w
theorem TyOK.run_typeInfo : ∃ i, (typeInfo t).run P w = .ok i w ∧ i.size = a.size ∧ i.bytes = a.bytes ∧ ∀ zs, a.zero = some zs → ∃ z, i.zero = some z ∧ ∀ ρ : Ren, VRL ρ zs z.cells.toList := by
  obtain ⟨i, hi, h1⟩ := h.info
  exact ⟨i, by simp [typeInfo, hi], h1⟩
theorem TyOK.run_size : (sizeOf t).run P w = .ok a.size w := by
  obtain ⟨i, hi, h1, _⟩ := h.run_typeInfo w
  simp [sizeOf, hi, h1]
theorem TyOK.run_agg : (isAgg t).run P w = .ok a.agg w := by
  rw [h.agg]
  simp only [isAgg, Sem.run_bind, h.run_und, Result.andThen_ok]
  cases a.d <;> rfl
theorem TyOK.run_zero {zs : List AV} (hz : a.zero = some zs) : ∃ z, (zeroValue t).run P w = .ok z w ∧ ∀ ρ : Ren, VRL ρ zs z.cells.toList := by
  obtain ⟨i, hi, _, _, h3⟩ := h.run_typeInfo w
  obtain ⟨z, hz1, hz2⟩ := h3 zs hz
  exact ⟨z, by simp [zeroValue, hi, hz1], hz2⟩
theorem TyOK.cellsOf : P.cellsOf t = a.size := by
  obtain ⟨i, hi, h1, _⟩ := h.info
  simp [Program.cellsOf, hi, h1]
end

/-! ### 5. Operands -/
inductive AO where
  | tmp (t : Nat)
  | con (v : AV)
  deriving Inhabited
def AO.ev (tm : T AV) : AO → Option AV
  | .tmp t => tm.get t
  | .con v => some v
def compO : Operand → Option AO
  | .tmp t => some (.tmp t)
  | .const v => (avOf v).map .con
  | .func f => some (.con (.fn f [] []))
  | .global _ => none
theorem ev_sound {ρ : Ren} {tm : T AV} {a : Act} (A : AR ρ tm a.tmps) {x : Operand} {ax : AO} (hx : compO x = some ax) {v : AV} (hv : ax.ev tm = some v) : VR ρ v (a.eval x) := by
  cases x with
  | tmp t =>
    simp only [compO, Option.some.injEq] at hx
    subst hx
    exact (A t v hv).2
  | const c =>
    simp only [compO, Option.map_eq_some_iff] at hx
    obtain ⟨b, hb, rfl⟩ := hx
    simp only [AO.ev, Option.some.injEq] at hv
    subst hv
    exact avOf_sound hb ρ
  | func f =>
    simp only [compO, Option.some.injEq] at hx
    subst hx
    simp only [AO.ev, Option.some.injEq] at hv
    subst hv
    exact .fn f [] [] #[] #[] .nil .nil
  | global g => simp [compO] at hx

def compOs : List Operand → Option (List AO)
  | [] => some []
  | x :: xs => match compO x, compOs xs with
    | some a, some as => some (a :: as)
    | _, _ => none
def evs (tm : T AV) : List AO → Option (List AV)
  | [] => some []
  | x :: xs => match x.ev tm, evs tm xs with
    | some a, some as => some (a :: as)
    | _, _ => none
theorem evs_sound {ρ : Ren} {tm : T AV} {a : Act} (A : AR ρ tm a.tmps) : ∀ {xs : List Operand} {axs : List AO}, compOs xs = some axs → ∀ {vs : List AV}, evs tm axs = some vs → VRL ρ vs (xs.map a.eval)
  | [], axs, hx, vs, hv => by
    simp [compOs] at hx
    subst hx
    simp [evs] at hv
    subst hv
    exact .nil
  | x :: xs, axs, hx, vs, hv => by
    simp only [compOs] at hx
    split at hx
    · rename_i b bs h1 h2
      injection hx with hx
      subst hx
      simp only [evs] at hv
      split at hv
      · rename_i c cs h3 h4
        injection hv with hv
        subst hv
        exact .cons _ _ _ _ (ev_sound A h1 h3) (evs_sound A h2 h4)
      · cases hv
    · cases hx

/-! ### 6. Numbers -/
def wrapA (k : IntKind) (n : Int) : Int :=
  match k with
  | .i64 => match n with
    | .ofNat m => match Nat.blt m 9223372036854775808 with
      | true => n
      | false => IntKind.wrap .i64 n
    | .negSucc m => match Nat.blt m 9223372036854775808 with
      | true => n
      | false => IntKind.wrap .i64 n
  | k => k.wrap n
theorem of_eq_true_ {a b : Nat} (h : Nat.blt a b = true) : a < b := by simpa [Nat.blt_eq] using h
theorem wrapA_eq (k : IntKind) (n : Int) : wrapA k n = k.wrap n := by
  have e64 : (2 ^ 64 : Int) = 18446744073709551616 := by decide
  have e63 : (2 ^ 63 : Int) = 9223372036854775808 := by decide
  cases k <;> try rfl
  unfold wrapA
  cases n with
  | ofNat m =>
    simp only
    split
    · rename_i h
      have h : m < 9223372036854775808 := of_eq_true_ h
      simp only [IntKind.wrap, IntKind.bits, IntKind.signed, Bool.true_and, Int.ofNat_eq_natCast, e64, show 64 - 1 = 63 from rfl, e63, decide_eq_true_eq]
      split <;> omega
    · rfl
  | negSucc m =>
    simp only
    split
    · rename_i h
      have h : m < 9223372036854775808 := of_eq_true_ h
      simp only [IntKind.wrap, IntKind.bits, IntKind.signed, Bool.true_and, e64, show 64 - 1 = 63 from rfl, e63, decide_eq_true_eq]
      split <;> omega
    · rfl

def ibin (op : BinOp) (k : IntKind) (a : Int) (k' : IntKind) (b : Int) : Option AV :=
  match op with
  | .shl => if b < 0 then none else some (.int k (wrapA k (a * 2 ^ min b.toNat k.bits)))
  | .shr => if b < 0 then none else some (.int k (a.fdiv (2 ^ min b.toNat k.bits)))
  | op => if k = k' then
      match op with
      | .add => some (.int k (wrapA k (a + b)))
      | .sub => some (.int k (wrapA k (a - b)))
      | .mul => some (.int k (wrapA k (a * b)))
      | .quo => if b = 0 then none else some (.int k (wrapA k (a.tdiv b)))
      | .rem => if b = 0 then none else some (.int k (a.tmod b))
      | .and => some (.int k (wrapA k (BitVec.ofInt k.bits a &&& BitVec.ofInt k.bits b).toNat))
      | .or => some (.int k (wrapA k (BitVec.ofInt k.bits a ||| BitVec.ofInt k.bits b).toNat))
      | .xor => some (.int k (wrapA k (BitVec.ofInt k.bits a ^^^ BitVec.ofInt k.bits b).toNat))
      | .eql => some (.bool (a == b))
      | .neq => some (.bool (a != b))
      | .lss => some (.bool (decide (a < b)))
      | .leq => some (.bool (decide (a ≤ b)))
      | .gtr => some (.bool (decide (b < a)))
      | .geq => some (.bool (decide (b ≤ a)))
      | _ => none
    else none
/-- A number is in one of some ranges. -/
def inR (a : Int) (l : List (Int × Int)) : Bool := List.rec (motive := fun _ => Bool) false (fun p _ r => or (and (decide (p.1 ≤ a)) (decide (a ≤ p.2))) r) l
theorem inR_mem {a : Int} : ∀ {l : List (Int × Int)}, inR a l = true → ∃ p ∈ l, p.1 ≤ a ∧ a ≤ p.2
  | [], h => by
    have : (false : Bool) = true := h
    cases this
  | p :: l, h => by
    have h : (or (and (decide (p.1 ≤ a)) (decide (a ≤ p.2))) (inR a l)) = true := h
    simp only [Bool.or_eq_true, Bool.and_eq_true, decide_eq_true_eq] at h
    rcases h with h | h
    · exact ⟨p, by simp, h⟩
    · obtain ⟨q, h1, h2⟩ := inR_mem h
      exact ⟨q, by simp [h1], h2⟩
/-- A known number beside one that is in none of some ranges: like or unlike. -/
def nbin (op : BinOp) (k : IntKind) (a : Int) (l : List (Int × Int)) : Option AV :=
  match op with
  | .eql => if k = .i64 then (match inR a l with | true => some (.bool false) | false => none) else none
  | _ => none
theorem nbin_sound {P : Program} {op : BinOp} {k : IntKind} {a b : Int} {l : List (Int × Int)} {r : AV} (h : nbin op k a l = some r) (hb : ∀ p ∈ l, ¬ (p.1 ≤ b ∧ b ≤ p.2)) (t : TypeId) (x y : Operand) (w : World) (ρ : Ren) :
    ∃ v, (do eqGuard op t x y (.int k a) (.int .i64 b); binOp op t (.int k a) (.int .i64 b) : Sem Value).run P w = .ok v w ∧ VR ρ r v := by
  unfold nbin at h
  split at h
  · split at h
    · rename_i hk
      subst hk
      split at h
      · rename_i hr
        injection h with h
        subst h
        obtain ⟨p, h1, h2⟩ := inR_mem hr
        have hne : a ≠ b := fun e => hb p h1 (e ▸ h2)
        exact ⟨.bool (a == b), by simp [eqGuard, binOp, Op.intCmp], by rw [show (a == b) = false by simpa using hne]; exact .bool _⟩
      · cases h
    · cases h
  · cases h
/-- A number that is not known beside a known one. -/
def vbin (op : BinOp) (q : Num) (k : IntKind) (a : Int) : Option AV :=
  match decide (k = .i64) with
  | false => none
  | true => match q with
    | .off l => match op with
      | .eql => match inR a l with
        | true => some (.bool false)
        | false => none
      | .neq => match inR a l with
        | true => some (.bool true)
        | false => none
      | _ => none
    | .iv lo hi => match op with
      | .sub => match decide (-9223372036854775808 ≤ lo - a ∧ hi - a ≤ 9223372036854775807) with
        | true => some (.num (.iv (lo - a) (hi - a)))
        | false => match decide (hi - a < -9223372036854775808 ∧ -27670116110564327424 ≤ lo - a) with
          | true => some (.num (.iv (lo - a + 18446744073709551616) (hi - a + 18446744073709551616)))
          | false => none
      | .lss => match decide (hi < a), decide (a ≤ lo) with
        | true, _ => some (.bool true)
        | _, true => some (.bool false)
        | _, _ => none
      | .leq => match decide (hi ≤ a), decide (a < lo) with
        | true, _ => some (.bool true)
        | _, true => some (.bool false)
        | _, _ => none
      | .gtr => match decide (a < lo), decide (hi ≤ a) with
        | true, _ => some (.bool true)
        | _, true => some (.bool false)
        | _, _ => none
      | .geq => match decide (a ≤ lo), decide (hi < a) with
        | true, _ => some (.bool true)
        | _, true => some (.bool false)
        | _, _ => none
      | .eql => match decide (hi < a ∨ a < lo) with
        | true => some (.bool false)
        | false => none
      | .neq => match decide (hi < a ∨ a < lo) with
        | true => some (.bool true)
        | false => none
      | _ => none
    | .pk _ _ => none
theorem bool_is {ρ : Ren} {b c : Bool} (h : b = c) : VR ρ (.bool c) (.bool b) := by rw [h]; exact .bool _
theorem vbin_sound {P : Program} {op : BinOp} {q : Num} {k : IntKind} {a b : Int} {r : AV} (h : vbin op q k a = some r) (hb : q.ok b) (t : TypeId) (x y : Operand) (w : World) (ρ : Ren) :
    ∃ v, (do eqGuard op t x y (.int .i64 b) (.int k a); binOp op t (.int .i64 b) (.int k a) : Sem Value).run P w = .ok v w ∧ VR ρ r v := by
  unfold vbin at h
  split at h
  · cases h
  · rename_i hk
    have hk := of_decide_eq_true hk
    subst hk
    split at h
    · rename_i l
      split at h
      · split at h
        · rename_i hr
          injection h with h
          subst h
          obtain ⟨p, h1, h2⟩ := inR_mem hr
          have hne : b ≠ a := fun e => hb p h1 (e ▸ h2)
          exact ⟨.bool (b == a), by simp [eqGuard, binOp, Op.intCmp], bool_is (by simpa using hne)⟩
        · cases h
      · split at h
        · rename_i hr
          injection h with h
          subst h
          obtain ⟨p, h1, h2⟩ := inR_mem hr
          have hne : b ≠ a := fun e => hb p h1 (e ▸ h2)
          exact ⟨.bool (b != a), by simp [eqGuard, binOp, Op.intCmp], bool_is (by simpa using hne)⟩
        · cases h
      · cases h
    · rename_i lo hi
      obtain ⟨b1, b2, b3, b4⟩ := hb
      split at h
      · split at h
        · rename_i hc
          have hc := of_decide_eq_true hc
          injection h with h
          subst h
          refine ⟨.int .i64 (IntKind.i64.wrap (b - a)), by simp [eqGuard, binOp, Op.intArith], .num _ _ ?_⟩
          rw [IntKind.wrap_i64]
          exact ⟨by omega, by omega, by omega, by omega⟩
        · split at h
          · rename_i hc
            have hc := of_decide_eq_true hc
            injection h with h
            subst h
            refine ⟨.int .i64 (IntKind.i64.wrap (b - a)), by simp [eqGuard, binOp, Op.intArith], .num _ _ ?_⟩
            rw [IntKind.wrap_i64]
            exact ⟨by omega, by omega, by omega, by omega⟩
          · cases h
      all_goals
        try (
          split at h
          · rename_i hc
            first
              | (have hc := of_decide_eq_true hc
                 injection h with h
                 subst h
                 refine ⟨_, by simp only [eqGuard, binOp, Op.intCmp]; rfl, bool_is ?_⟩
                 simp
                 omega)
              | skip
          all_goals
            first
              | (cases h; done)
              | (rename_i hc hx
                 have hc := of_decide_eq_true hc
                 injection h with h
                 subst h
                 refine ⟨_, by simp only [eqGuard, binOp, Op.intCmp]; rfl, bool_is ?_⟩
                 simp
                 omega)
              | skip)
      all_goals first | (cases h; done) | skip
    · cases h
theorem ibin_sound {P : Program} {op : BinOp} {k k' : IntKind} {a b : Int} {r : AV} (h : ibin op k a k' b = some r) (t : TypeId) (x y : Operand) (w : World) (ρ : Ren) :
    ∃ v, (do eqGuard op t x y (.int k a) (.int k' b); binOp op t (.int k a) (.int k' b) : Sem Value).run P w = .ok v w ∧ VR ρ r v := by
  cases op <;> simp only [ibin] at h
  all_goals
    split at h <;> first | (cases h; done) | skip
  all_goals
    try subst k'
  all_goals
    first
      | (split at h <;> first | (cases h; done) | skip)
      | skip
  all_goals
    injection h with h
    subst h
    first
      | exact ⟨.int k _, by simp_all [eqGuard, binOp, Op.shift, Op.intArith, Op.intDiv, Op.intBits, Op.intCmp, wrapA_eq] <;> (intro h_; omega), .int _ _⟩
      | exact ⟨.bool _, by simp_all [eqGuard, binOp, Op.shift, Op.intArith, Op.intDiv, Op.intBits, Op.intCmp, wrapA_eq]; done, .bool _⟩

/-! ### 7. Parts laid into a base -/
theorem foldl_set : ∀ (l : List Value) (j off : Nat) (cells : Array Value), off + j + l.length ≤ cells.size →
    ((l.zipIdx j).foldl (fun cs (x : Value × Nat) => cs.setIfInBounds (off + x.2) x.1) cells).toList = cells.toList.take (off + j) ++ l ++ cells.toList.drop (off + j + l.length)
  | [], j, off, cells, _ => by simp
  | v :: l, j, off, cells, h => by
    simp only [List.zipIdx_cons, List.foldl_cons]
    rw [foldl_set l (j + 1) off _ (by simp at h ⊢; omega)]
    simp at h
    have hj : off + j < cells.toList.length := by simp; omega
    rw [Array.toList_setIfInBounds]
    simp only [List.length_cons]
    rw [List.drop_set_of_lt (by omega), show off + (j + 1) = off + j + 1 by omega, List.take_succ_eq_append_getElem (by simpa using hj), List.take_set_of_le (Nat.le_refl _), List.getElem_set_self,
      show off + j + 1 + l.length = off + j + (l.length + 1) by omega]
    simp

def fillA (tm : T AV) : List AV → List (Nat × Nat × AO) → Option (List AV)
  | base, [] => some base
  | base, (off, size, x) :: rest => match x.ev tm with
    | none => none
    | some v => match Nat.beq v.cells.length size && Nat.ble (off + size) base.length with
      | true => fillA tm (base.take off ++ (v.cells ++ base.drop (off + size))) rest
      | false => none
def compParts (place : Nat → Option (Nat × Nat)) : List (Nat × Operand) → Option (List (Nat × Nat × AO))
  | [] => some []
  | (i, x) :: rest => match place i, compO x, compParts place rest with
    | some (off, size), some ax, some r => some ((off, size, ax) :: r)
    | _, _, _ => none
theorem fill_sound {ρ : Ren} {tm : T AV} {a : Act} (A : AR ρ tm a.tmps) (place : Nat → Option (Nat × Nat)) : ∀ {parts : List (Nat × Operand)} {aps : List (Nat × Nat × AO)}, compParts place parts = some aps →
    ∀ {base : List AV} {cells : Array Value}, VRL ρ base cells.toList → ∀ {out : List AV}, fillA tm base aps = some out →
    ∃ cells', Instr.fill place cells (parts.map fun (i, x) => (i, a.eval x)) = some cells' ∧ VRL ρ out cells'.toList ∧ cells'.size = cells.size
  | [], aps, hp, base, cells, hb, out, ho => by
    simp [compParts] at hp
    subst hp
    simp [fillA] at ho
    subst ho
    exact ⟨cells, rfl, hb, rfl⟩
  | (i, x) :: parts, aps, hp, base, cells, hb, out, ho => by
    simp only [compParts] at hp
    split at hp
    · rename_i off size ax r h1 h2 h3
      injection hp with hp
      subst hp
      simp only [fillA] at ho
      split at ho
      · cases ho
      · rename_i v hv
        split at ho
        · rename_i hc
          simp only [Bool.and_eq_true, Nat.ble_eq] at hc
          obtain ⟨hc1, hc2⟩ := hc
          have hc1 := Nat.eq_of_beq_eq_true hc1
          have hvr := (ev_sound A h2 hv).cells
          have hl := hvr.length
          have hbl := hb.length
          simp only [Array.length_toList] at hl hbl
          have hfold := foldl_set (a.eval x).cells.toList 0 off cells (by simp only [Array.length_toList]; omega)
          obtain ⟨cells', e1, e2, e3⟩ := fill_sound A place h3 (base := base.take off ++ (v.cells ++ base.drop (off + size)))
            (cells := ((a.eval x).cells.toList.zipIdx 0).foldl (fun cs (x : Value × Nat) => cs.setIfInBounds (off + x.2) x.1) cells)
            (by
              rw [hfold]
              simp only [Nat.add_zero, Array.length_toList, List.append_assoc]
              rw [show off + (a.eval x).cells.size = off + size by omega]
              exact (hb.take off).append (hvr.append (hb.drop _))) ho
          refine ⟨cells', ?_, e2, ?_⟩
          · simp only [List.map_cons, Instr.fill, h1]
            rw [if_neg (by simp; omega)]
            rw [← Array.foldl_toList, Array.toList_zipIdx]
            exact e1
          · rw [e3]
            have := congrArg List.length hfold
            simp at this
            omega
        · cases ho
    · cases hp
