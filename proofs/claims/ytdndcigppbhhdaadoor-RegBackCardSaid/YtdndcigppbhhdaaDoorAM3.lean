/-
  The interpreter over abstract values: the pure operations. (text 3)
-/
import Derived.Test.YtdndcigppbhhdaaDoorAM2
import Derived.Laws.Tables
import Derived.Laws.StructEq
namespace Go.Proofs.YtdndcigppbhhdaaDoorAM
open Go.RowKit
set_option linter.unusedSimpArgs false
set_option linter.unusedVariables false
noncomputable section

inductive PK where
  | mv (x : AO)
  | pick (c a b : AO)
  | build (base : List AV) (parts : List (Nat × Nat × AO))
  | bin (op : BinOp) (x y : AO)
  | eqb (ng : Bool) (x y : AO)
  | not (x : AO)
  | neg (x : AO)
  | conv (k : IntKind) (x : AO)
  | mkfn (f : Nat) (fs cs : List AO)
  | fieldA (off : Nat) (x : AO)
  | field (agg : Bool) (off sz : Nat) (x : AO)
  | idxA (e : Nat) (x i : AO)
  | idxP (n e : Nat) (x i : AO)
  | idx (agg : Bool) (n e : Nat) (x i : AO)
  | extract (x : AO) (i : Nat)
  | len (x : AO)
  | nilc (x : AO)
  | slc (e : Nat) (x : AO) (lo hi : Option AO)
  | slen (x : AO)
  | sidx (x i : AO)
  | seq (ng : Bool) (x y : AO)
  | sadd (x y : AO)
  | ssl (x : AO) (lo hi : Option AO)
  | mini (x y : AO)
  | eqs (ng : Bool) (fs : List Nat) (x y : AO)
  | stuck
  deriving Inhabited
def natsEq : List Nat → List Nat → Bool
  | [], [] => true
  | a :: as, b :: bs => Nat.beq a b && natsEq as bs
  | _, _ => false
theorem natsEq_iff : ∀ {as bs : List Nat}, natsEq as bs = true ↔ as = bs
  | [], [] => by simp [natsEq]
  | [], _ :: _ => by simp [natsEq]
  | _ :: _, [] => by simp [natsEq]
  | a :: as, b :: bs => by
    simp only [natsEq, Bool.and_eq_true, List.cons.injEq]
    rw [natsEq_iff]
    constructor
    · rintro ⟨h1, h2⟩
      exact ⟨Nat.eq_of_beq_eq_true h1, h2⟩
    · rintro ⟨h1, h2⟩
      subst h1
      exact ⟨Nat.beq_refl a, h2⟩
/-- Whole numbers at these places, alike? -/
def eqAt (cs ds : List AV) : List Nat → Option Bool
  | [] => some true
  | f :: fs => match cs[f]?, ds[f]? with
    | some (.int k a), some (.int k' b) => match decide (k = k') with
      | true => match eqAt cs ds fs with
        | some r => some (decide (a = b) && r)
        | none => none
      | false => none
    | _, _ => none

def evo (tm : T AV) : Option AO → Option (Option AV)
  | none => some none
  | some x => (x.ev tm).map some
def natOf : AV → Option Nat
  | .int _ (.ofNat n) => some n
  | _ => none
def natOr (d : Nat) : Option AV → Option Nat
  | none => some d
  | some v => natOf v

def PK.ev (tm : T AV) : PK → Option AV
  | .mv x => x.ev tm
  | .pick c a b => match c.ev tm, a.ev tm, b.ev tm with
    | some (.bool c), some a, some b => some (match c with | true => a | false => b)
    | _, _, _ => none
  | .build base parts => match fillA tm base parts with
    | some cs => some (.agg cs)
    | none => none
  | .bin op x y => match x.ev tm, y.ev tm with
    | some (.int k a), some (.int k' b) => ibin op k a k' b
    | some (.int k a), some (.num (.off l)) => nbin op k a l
    | some (.num q), some (.int k a) => vbin op q k a
    | _, _ => none
  | .eqb ng x y => match x.ev tm, y.ev tm with
    | some (.bool a), some (.bool b) => some (.bool (match ng with | true => !(a == b) | false => a == b))
    | _, _ => none
  | .not x => match x.ev tm with
    | some (.bool b) => some (.bool (!b))
    | _ => none
  | .neg x => match x.ev tm with
    | some (.int k n) => some (.int k (wrapA k (0 - n)))
    | _ => none
  | .conv k x => match x.ev tm with
    | some (.int _ n) => some (.int k (wrapA k n))
    | _ => none
  | .mkfn f fs cs => match evs tm fs, evs tm cs with
    | some a, some b => some (.fn f a b)
    | _, _ => none
  | .fieldA off x => match x.ev tm with
    | some (.ptr id o) => some (.ptr id (o + off))
    | _ => none
  | .field agg off sz x => match x.ev tm with
    | some (.agg cs) => match agg with
      | true => match Nat.ble (off + sz) cs.length with
        | true => some (.agg ((cs.drop off).take sz))
        | false => none
      | false => cs[off]?
    | _ => none
  | .idxA e x i => match x.ev tm, i.ev tm with
    | some (.sl id o n _ _), some (.int _ (.ofNat j)) => match Nat.blt j n with
      | true => some (.ptr id (o + j * e))
      | false => none
    | _, _ => none
  | .idxP n e x i => match x.ev tm, i.ev tm with
    | some (.ptr id o), some (.int _ (.ofNat j)) => match Nat.blt j n with
      | true => some (.ptr id (o + j * e))
      | false => none
    | _, _ => none
  | .idx agg n e x i => match x.ev tm, i.ev tm with
    | some (.agg cs), some (.int _ (.ofNat j)) => match Nat.blt j n with
      | true => match agg with
        | true => match Nat.ble (j * e + e) cs.length with
          | true => some (.agg ((cs.drop (j * e)).take e))
          | false => none
        | false => cs[j * e]?
      | false => none
    | _, _ => none
  | .extract x i => match x.ev tm with
    | some (.tup vs) => vs[i]?
    | _ => none
  | .len x => match x.ev tm with
    | some (.sl _ _ n _ _) => some (.int .i64 n)
    | some .nils => some (.int .i64 0)
    | _ => none
  | .nilc x => match x.ev tm with
    | some (.ptr id o) => some (.ptr id o)
    | some (.fn f a b) => some (.fn f a b)
    | _ => none
  | .slc e x lo hi => match x.ev tm, evo tm lo, evo tm hi with
    | some (.sl id o n c e'), some lo, some hi => match natOr 0 lo, natOr n hi with
      | some l, some h => match Nat.beq e e' && Nat.ble l h && Nat.ble h c && (Nat.blt l c || Nat.beq l 0) with
        | true => some (.sl id (o + l * e) (h - l) (c - l) e)
        | false => none
      | _, _ => none
    | _, _, _ => none
  | .slen x => match x.ev tm with
    | some (.str l) => some (.int .i64 l.length)
    | _ => none
  | .sidx x i => match x.ev tm, i.ev tm with
    | some (.str l), some (.int _ (.ofNat j)) => match getF j l with
      | some b => some (.int .u8 (.ofNat b))
      | none => none
    | _, _ => none
  | .seq ng x y => match x.ev tm, y.ev tm with
    | some (.str a), some (.str b) => some (.bool (match ng with | true => !(natsEq a b) | false => natsEq a b))
    | _, _ => none
  | .sadd x y => match x.ev tm, y.ev tm with
    | some (.str a), some (.str b) => match Nat.ble (a.length + b.length) 1000000 with
      | true => some (.str (a ++ b))
      | false => none
    | _, _ => none
  | .ssl x lo hi => match x.ev tm, evo tm lo, evo tm hi with
    | some (.str s), some lo, some hi => match natOr 0 lo, natOr s.length hi with
      | some l, some h => match Nat.ble l h && Nat.ble h s.length with
        | true => some (.str (takeF (h - l) (dropF l s)))
        | false => none
      | _, _ => none
    | _, _, _ => none
  | .mini x y => match x.ev tm, y.ev tm with
    | some (.int k a), some (.int _ b) => some (.int k (match decide (b < a) with | true => b | false => a))
    | _, _ => none
  | .eqs ng fs x y => match x.ev tm, y.ev tm with
    | some (.agg cs), some (.agg ds) => match eqAt cs ds fs with
      | some r => some (.bool (match ng with | true => !r | false => r))
      | none => none
    | _, _ => none
  | .stuck => none

def compOo : Option Operand → Option (Option AO)
  | none => some none
  | some x => (compO x).map some

def intFields (P : Program) (fs : List Field) : Bool := fs.all fun f => f.name != "_" && match P.underlying f.type with
  | some (.int _) => true
  | _ => false
def compP (P : Program) : Op → Option PK
  | .move x | .assign x => (compO x).map .mv
  | .pick c a b => match compO c, compO a, compO b with
    | some c, some a, some b => some (.pick c a b)
    | _, _, _ => none
  | .build t parts => match tyOf P t with
    | some ty => match ty.zero, ty.d with
      | some z, .struct fs => match fs.toList.mapM (fun f => (P.info? f.type).map fun i => (f.offset, i.size)) with
        | some places => (compParts (places.toArray[·]?) parts.toList).map (.build z)
        | none => none
      | some z, .array n e => match tyOf P e with
        | some te => (compParts (fun i => some (i * te.size, te.size)) parts.toList).map (.build z)
        | none => none
      | _, _ => none
    | none => none
  | .binOp op t x y _ => match compO x, compO y with
    | some ax, some ay => match P.underlying t, op with
      | some .bool, .eql => some (.eqb false ax ay)
      | some .bool, .neq => some (.eqb true ax ay)
      | some (.int _), op => some (.bin op ax ay)
      | some .string, .eql => some (.seq false ax ay)
      | some .string, .neq => some (.seq true ax ay)
      | some .string, .add => some (.sadd ax ay)
      | some (.struct fs), .eql => match !P.stoodInHeld t && !P.eqGuardType P.depth t && intFields P fs.toList with
        | true => some (.eqs false (fs.toList.map (·.offset)) ax ay)
        | false => none
      | some (.struct fs), .neq => match !P.stoodInHeld t && !P.eqGuardType P.depth t && intFields P fs.toList with
        | true => some (.eqs true (fs.toList.map (·.offset)) ax ay)
        | false => none
      | _, _ => none
    | _, _ => none
  | .unOp .not _ x => (compO x).map .not
  | .unOp .neg _ x => (compO x).map .neg
  | .convert src dst x => match P.underlying src, P.underlying dst with
    | some (.int _), some (.int k) => (compO x).map (.conv k)
    | _, _ => none
  | .makeFunc (.func f) fs cs => match compOs fs.toList, compOs cs.toList with
    | some a, some b => some (.mkfn f a b)
    | _, _ => none
  | .fieldAddr t x f => match P.underlying t with
    | some (.struct fs) => match fs[f]? with
      | some fd => match tyOf P fd.type with
        | some ty => match Nat.beq ty.size 0 with
          | true => none
          | false => (compO x).map (.fieldA fd.offset)
        | none => none
      | none => none
    | _ => none
  | .field t x f => match P.underlying t with
    | some (.struct fs) => match fs[f]? with
      | some fd => match tyOf P fd.type with
        | some ty => (compO x).map (.field ty.agg fd.offset ty.size)
        | none => none
      | none => none
    | _ => none
  | .indexAddr t x i => match P.underlying t, compO x, compO i with
    | some (.slice e), some ax, some ai => (tyOf P e).map fun te => .idxA te.size ax ai
    | some (.array n e), some ax, some ai => (tyOf P e).map fun te => .idxP n te.size ax ai
    | _, _, _ => none
  | .index t x i => match P.underlying t, compO x, compO i with
    | some (.array n e), some ax, some ai => (tyOf P e).map fun te => .idx te.agg n te.size ax ai
    | some .string, some ax, some ai => some (.sidx ax ai)
    | _, _, _ => none
  | .extract x i => (compO x).map fun ax => .extract ax i
  | .nilCheck x => (compO x).map .nilc
  | .slice t x lo hi none => match P.underlying t, compO x, compOo lo, compOo hi with
    | some (.slice e), some ax, some lo, some hi => (tyOf P e).map fun te => .slc te.size ax lo hi
    | some .string, some ax, some lo, some hi => some (.ssl ax lo hi)
    | _, _, _, _ => none
  | .call { callee := .builtin .len, args := args, argTypes := ts } => match args.toList, ts.toList with
    | [x], [t] => match P.underlying t with
      | some (.slice _) => (compO x).map .len
      | some .string => (compO x).map .slen
      | _ => none
    | _, _ => none
  | .call { callee := .builtin .min, args := args, argTypes := _ } => match args.toList with
    | [x, y] => match compO x, compO y with
      | some ax, some ay => some (.mini ax ay)
      | _, _ => none
    | _ => none
  | _ => none

theorem natMap_inj : ∀ {a b : List UInt8}, a.map UInt8.toNat = b.map UInt8.toNat → a = b
  | [], [], _ => rfl
  | [], _ :: _, h => by simp at h
  | _ :: _, [], h => by simp at h
  | x :: a, y :: b, h => by
    simp only [List.map_cons, List.cons.injEq] at h
    rw [UInt8.toNat_inj.1 h.1, natMap_inj h.2]

theorem run_v (P : Program) (s : Sem Value) {v : Value} {w w' : World} (h : s.run P w = .ok v w') : (do pure (.value (← s)) : Sem Next).run P w = .ok (.value v) w' := by
  simp [h]

theorem add_plain (b o n : Nat) : (⟨b, o, none⟩ : Addr).add n = ⟨b, o + n, none⟩ := by unfold Addr.add; split <;> simp_all

theorem part_sound {P : Program} {t : TypeId} {ty : TyA} (h : tyOf P t = some ty) {ρ : Ren} {cs : List AV} {ds : Array Value} (hc : VRL ρ cs ds.toList) {off : Nat} {r : AV}
    (hr : (match ty.agg with
      | true => match Nat.ble (off + ty.size) cs.length with
        | true => some (.agg ((cs.drop off).take ty.size))
        | false => none
      | false => cs[off]?) = some r) (w : World) : ∃ v, (part t ds off).run P w = .ok v w ∧ VR ρ r v := by
  have ok := tyOf_ok h
  cases ha : ty.agg with
  | true =>
    simp only [ha] at hr
    split at hr
    · rename_i hl
      injection hr with hr
      subst hr
      have hl := Nat.ble_eq.mp hl
      refine ⟨.agg (ds.extract off (off + ty.size)), by simp [part, ok.run_agg, ok.run_size, ha], .agg _ _ ?_⟩
      have := (hc.drop off).take ty.size
      rw [Array.toList_extract]
      simpa [List.extract_eq_take_drop] using this
    · cases hr
  | false =>
    simp only [ha] at hr
    obtain ⟨v, hv, hvr⟩ := hc.get off r hr
    refine ⟨v, ?_, hvr⟩
    have hv' : ds[off]? = some v := by simpa using hv
    simp [part, ok.run_agg, ha, hv']

theorem run_eq_bool {P : Program} {t : TypeId} (hu : P.underlying t = some .bool) (a b : Bool) (w : World) : (Op.equal t (.bool a) (.bool b)).run P w = .ok (a == b) w := by
  unfold Op.equal Op.maxDepth
  rw [show (10000 : Nat) = 9999 + 1 from rfl, Op.equalIn]
  simp only [Sem.run_bind, run_underlying hu, Result.andThen_ok, Sem.run_pure]

theorem eqAt_sound {P : Program} {ρ : Ren} (w : World) {cs ds : List AV} {xs ys : Array Value} (hc : VRL ρ cs xs.toList) (hd : VRL ρ ds ys.toList) : ∀ {fs : List Field} {r : Bool}, intFields P fs = true → eqAt cs ds (fs.map (·.offset)) = some r → ∀ d, (Op.eqFields (d + 1) xs ys fs).run P w = .ok r w
  | [], r, _, hr, d => by
    simp only [List.map_nil, eqAt, Option.some.injEq] at hr
    subst hr
    rfl
  | f :: fs, r, hf, hr, d => by
    simp only [intFields, List.all_cons, Bool.and_eq_true] at hf
    obtain ⟨⟨f1, f2⟩, f3⟩ := hf
    simp only [List.map_cons, eqAt] at hr
    split at hr
    · rename_i k m k' n hm hn
      split at hr
      · rename_i hk
        have hk := of_decide_eq_true hk
        subst hk
        split at hr
        · rename_i r' hr'
          injection hr with hr
          subst hr
          have ih := eqAt_sound (P := P) w hc hd (fs := fs) f3 hr' d
          obtain ⟨v1, g1, g2⟩ := hc.get f.offset _ hm
          obtain ⟨v2, g3, g4⟩ := hd.get f.offset _ hn
          cases g2
          cases g4
          have g1 : xs[f.offset]? = some (.int k m) := by simpa using g1
          have g3 : ys[f.offset]? = some (.int k n) := by simpa using g3
          split at f2
          · rename_i kk hku
            have hna : f.name ≠ "_" := by simpa using f1
            have p1 : ∀ zs : Array Value, ∀ v, zs[f.offset]? = some v → (part f.type zs f.offset).run P w = .ok v w := fun zs v hz => by
              simp [part, isAgg, Sem.run_bind, run_underlying hku, hz]
            simp only [Op.eqFields, if_pos hna, Sem.run_bind, p1 xs _ g1, p1 ys _ g3, Result.andThen_ok, run_equalIn_int w d f.type k kk m n hku]
            by_cases e : m = n
            · subst e
              simp [ih]
            · simp [e]
          · cases f2
        · cases hr
      · cases hr
    · cases hr

section
variable {P : Program} {ρ : Ren} {tm : T AV} {a : Act} (A : AR ρ tm a.tmps) (w : World)
include A

theorem s_build {t : TypeId} {parts : Array (Nat × Operand)} {k : PK} (hk : compP P (.build t parts) = some k) {r : AV} (hr : k.ev tm = some r) :
    ∃ v, (Instr.build t (parts.map fun (i, x) => (i, a.eval x))).run P w = .ok v w ∧ VR ρ r v := by
  have eP : ∀ l : Array (Nat × Operand), (l.map fun (i, x) => (i, a.eval x)).toList = l.toList.map fun (i, x) => (i, a.eval x) := fun l => by simp
  simp only [compP] at hk
  split at hk
  · rename_i ty hty
    have ok := tyOf_ok hty
    obtain ⟨it, hi, hsz, _, hzz⟩ := ok.info
    have hund := ok.und
    split at hk
    · rename_i z fs hz hd
      rw [hd] at hund
      obtain ⟨zv, hz1, hz2⟩ := hzz z hz
      split at hk
      · rename_i places hpl
        obtain ⟨aps, hp, rfl⟩ := Option.map_eq_some_iff.1 hk
        simp only [PK.ev] at hr
        split at hr
        · rename_i cs hcs
          injection hr with hr
          subst hr
          obtain ⟨cells', e1, e2, _⟩ := fill_sound A _ hp (hz2 ρ) hcs
          exact ⟨.agg cells', run_build w t _ cells' (by simp only [Program.built, hi, hund, hz1, hpl, eP]; exact e1), .agg _ _ e2⟩
        · cases hr
      · cases hk
    · rename_i z n e hz hd
      rw [hd] at hund
      obtain ⟨zv, hz1, hz2⟩ := hzz z hz
      split at hk
      · rename_i te hte
        obtain ⟨ie, hie, hse, _, _⟩ := (tyOf_ok hte).info
        obtain ⟨aps, hp, rfl⟩ := Option.map_eq_some_iff.1 hk
        simp only [PK.ev] at hr
        split at hr
        · rename_i cs hcs
          injection hr with hr
          subst hr
          rw [← hse] at hp
          obtain ⟨cells', e1, e2, _⟩ := fill_sound A _ hp (hz2 ρ) hcs
          exact ⟨.agg cells', run_build w t _ cells' (by simp only [Program.built, hi, hund, hz1, hie, eP]; exact e1), .agg _ _ e2⟩
        · cases hr
      · cases hk
    · cases hk
  · cases hk

theorem s_seq {t : TypeId} (hu : P.underlying t = some .string) (ng : Bool) {x y : Operand} {ax ay : AO} (hx : compO x = some ax) (hy : compO y = some ay) {op : BinOp} (hop : (op = .eql ∧ ng = false) ∨ (op = .neq ∧ ng = true)) {r : AV} (hr : (PK.seq ng ax ay).ev tm = some r) :
    ∃ v, (do eqGuard op t x y (a.eval x) (a.eval y); binOp op t (a.eval x) (a.eval y) : Sem Value).run P w = .ok v w ∧ VR ρ r v := by
  simp only [PK.ev] at hr
  split at hr
  · rename_i l1 l2 hb hc
    injection hr with hr
    subst hr
    have h1 := ev_sound A hx hb
    have h2 := ev_sound A hy hc
    generalize a.eval x = vx at h1 ⊢
    generalize a.eval y = vy at h2 ⊢
    cases h1 with
    | str s1 =>
      cases h2 with
      | str s2 =>
        have key : (s1.toList == s2.toList) = natsEq (s1.data.toList.map UInt8.toNat) (s2.data.toList.map UInt8.toNat) := by
          rw [ByteArray.toList_eq, ByteArray.toList_eq, Bool.eq_iff_iff, natsEq_iff, beq_iff_eq]
          constructor
          · intro h; rw [h]
          · intro h
            exact natMap_inj h
        rcases hop with ⟨rfl, rfl⟩ | ⟨rfl, rfl⟩
        · exact ⟨_, by simp only [eqGuard, binOp, Op.stringOp, key]; rfl, .bool _⟩
        · exact ⟨_, by simp only [eqGuard, binOp, Op.stringOp, key]; rfl, .bool _⟩
  · cases hr

theorem s_eqs {t : TypeId} {fs : Array Field} (hu : P.underlying t = some (.struct fs)) (hc : (!P.stoodInHeld t && !P.eqGuardType P.depth t && intFields P fs.toList) = true) (ng : Bool) {x y : Operand} {ax ay : AO} (hx : compO x = some ax) (hy : compO y = some ay) {op : BinOp} (hop : (op = .eql ∧ ng = false) ∨ (op = .neq ∧ ng = true)) {r : AV} (hr : (PK.eqs ng (fs.toList.map (·.offset)) ax ay).ev tm = some r) :
    ∃ v, (do eqGuard op t x y (a.eval x) (a.eval y); binOp op t (a.eval x) (a.eval y) : Sem Value).run P w = .ok v w ∧ VR ρ r v := by
  simp only [Bool.and_eq_true, Bool.not_eq_true'] at hc
  obtain ⟨⟨c1, c2⟩, c3⟩ := hc
  simp only [PK.ev] at hr
  split at hr
  · rename_i cs ds hb hd
    split at hr
    · rename_i r' hr'
      injection hr with hr
      subst hr
      have h1 := ev_sound A hx hb
      have h2 := ev_sound A hy hd
      generalize a.eval x = vx at h1 ⊢
      generalize a.eval y = vy at h2 ⊢
      cases h1 with
      | agg _ xs hxs =>
        cases h2 with
        | agg _ ys hys =>
          have hft : P.fieldsOf t = fs := by simp [Program.fieldsOf, hu]
          have key := eqAt_sound w hxs hys (fs := fs.toList) c3 hr' 9998
          have hrun : (Op.equalIn 10000 t (.agg xs) (.agg ys)).run P w = .ok r' w := by
            rw [show (10000 : Nat) = 9999 + 1 from rfl, run_equalIn_agg w 9999 t xs ys (by rw [hft]; exact hu) c1, hft]
            exact key
          rcases hop with ⟨rfl, rfl⟩ | ⟨rfl, rfl⟩
          · exact ⟨.bool r', by rw [Sem.run_bind, run_eqGuard_agg w .eql t x y xs ys c2]; simp only [Result.andThen_ok]; rw [run_eql_struct, hrun]; rfl, .bool _⟩
          · exact ⟨.bool (!r'), by rw [Sem.run_bind, run_eqGuard_agg w .neq t x y xs ys c2]; simp only [Result.andThen_ok]; rw [run_neq_struct, hrun]; rfl, .bool _⟩
    · cases hr
  · cases hr

theorem s_bin {op : BinOp} {t yt : TypeId} {x y : Operand} {k : PK} (hk : compP P (.binOp op t x y yt) = some k) {r : AV} (hr : k.ev tm = some r) :
    ∃ v, (do eqGuard op t x y (a.eval x) (a.eval y); binOp op t (a.eval x) (a.eval y) : Sem Value).run P w = .ok v w ∧ VR ρ r v := by
  simp only [compP] at hk
  split at hk
  · rename_i ax ay hx hy
    split at hk
    · rename_i hu
      injection hk with hk
      subst hk
      simp only [PK.ev] at hr
      split at hr
      · rename_i b c hb hc
        injection hr with hr
        subst hr
        have h1 := ev_sound A hx hb
        have h2 := ev_sound A hy hc
        generalize a.eval x = vx at h1 ⊢
        generalize a.eval y = vy at h2 ⊢
        cases h1
        cases h2
        exact ⟨.bool (b == c), by simp [eqGuard, binOp, run_eq_bool hu], .bool _⟩
      · cases hr
    · rename_i hu
      injection hk with hk
      subst hk
      simp only [PK.ev] at hr
      split at hr
      · rename_i b c hb hc
        injection hr with hr
        subst hr
        have h1 := ev_sound A hx hb
        have h2 := ev_sound A hy hc
        generalize a.eval x = vx at h1 ⊢
        generalize a.eval y = vy at h2 ⊢
        cases h1
        cases h2
        exact ⟨.bool (!(b == c)), by simp [eqGuard, binOp, run_eq_bool hu], .bool _⟩
      · cases hr
    · injection hk with hk
      subst hk
      simp only [PK.ev] at hr
      split at hr
      · rename_i k1 b k2 c hb hc
        have h1 := ev_sound A hx hb
        have h2 := ev_sound A hy hc
        generalize a.eval x = vx at h1 ⊢
        generalize a.eval y = vy at h2 ⊢
        cases h1
        cases h2
        exact ibin_sound hr t x y w ρ
      · rename_i k1 b l hb hc
        have h1 := ev_sound A hx hb
        have h2 := ev_sound A hy hc
        generalize a.eval x = vx at h1 ⊢
        generalize a.eval y = vy at h2 ⊢
        cases h1
        cases h2 with
        | num q b h => exact nbin_sound hr h t x y w ρ
      · rename_i q k1 b hb hc
        have h1 := ev_sound A hx hb
        have h2 := ev_sound A hy hc
        generalize a.eval x = vx at h1 ⊢
        generalize a.eval y = vy at h2 ⊢
        cases h2
        cases h1 with
        | num q b h => exact vbin_sound hr h t x y w ρ
      · cases hr
    · rename_i hu
      injection hk with hk
      subst hk
      exact s_seq A w hu false hx hy (.inl ⟨rfl, rfl⟩) hr
    · rename_i hu
      injection hk with hk
      subst hk
      exact s_seq A w hu true hx hy (.inr ⟨rfl, rfl⟩) hr
    · rename_i hu
      injection hk with hk
      subst hk
      simp only [PK.ev] at hr
      split at hr
      · rename_i l1 l2 hb hc
        split at hr
        · rename_i hle
          injection hr with hr
          subst hr
          have hle := Nat.ble_eq.mp hle
          have h1 := ev_sound A hx hb
          have h2 := ev_sound A hy hc
          generalize a.eval x = vx at h1 ⊢
          generalize a.eval y = vy at h2 ⊢
          cases h1 with
          | str s1 =>
            cases h2 with
            | str s2 =>
              have hs : ¬ ((s1.size + s2.size : Nat) : Int) > IntKind.i64.max := by
                simp only [List.length_map, Array.length_toList] at hle
                have e1 : s1.data.size = s1.size := rfl
                have e2 : s2.data.size = s2.size := rfl
                have : IntKind.i64.max = 9223372036854775807 := by decide
                omega
              refine ⟨.string (s1 ++ s2), by simp only [eqGuard, binOp, Op.stringOp, if_neg hs]; rfl, ?_⟩
              have := VR.str (ρ := ρ) (s1 ++ s2)
              rw [ByteArray.data_append, Array.toList_append, List.map_append] at this
              exact this
        · cases hr
      · cases hr
    · rename_i fs hu
      split at hk
      · rename_i hc
        injection hk with hk
        subst hk
        exact s_eqs A w hu hc false hx hy (.inl ⟨rfl, rfl⟩) hr
      · cases hk
    · rename_i fs hu
      split at hk
      · rename_i hc
        injection hk with hk
        subst hk
        exact s_eqs A w hu hc true hx hy (.inr ⟨rfl, rfl⟩) hr
      · cases hk
    · cases hk
  · cases hk

theorem s_conv {src dst : TypeId} {x : Operand} {k : PK} (hk : compP P (.convert src dst x) = some k) {r : AV} (hr : k.ev tm = some r) :
    ∃ v, (convert src dst (a.eval x)).run P w = .ok v w ∧ VR ρ r v := by
  simp only [compP] at hk
  split at hk
  · rename_i k1 k2 h1 h2
    obtain ⟨ax, hx, rfl⟩ := Option.map_eq_some_iff.1 hk
    simp only [PK.ev] at hr
    split at hr
    · rename_i k3 n hn
      injection hr with hr
      subst hr
      have h3 := ev_sound A hx hn
      generalize a.eval x = vx at h3 ⊢
      cases h3
      exact ⟨.int k2 (k2.wrap n), by simp [convert, run_underlying h1, run_underlying h2, Conv.intToInt], by rw [wrapA_eq]; exact .int _ _⟩
    · cases hr
  · cases hk

theorem s_fieldA {t : TypeId} {x : Operand} {f : Nat} {k : PK} (hk : compP P (.fieldAddr t x f) = some k) {r : AV} (hr : k.ev tm = some r) :
    ∃ v, (Instr.fieldAt t (a.eval x) f).run P w = .ok v w ∧ VR ρ r v := by
  simp only [compP] at hk
  split at hk
  · rename_i fs hu
    split at hk
    · rename_i fd hf
      split at hk
      · rename_i ty hty
        split at hk
        · cases hk
        · rename_i hz
          obtain ⟨ax, hx, rfl⟩ := Option.map_eq_some_iff.1 hk
          simp only [PK.ev] at hr
          split at hr
          · rename_i id o hv
            injection hr with hr
            subst hr
            have h1 := ev_sound A hx hv
            generalize a.eval x = vx at h1 ⊢
            cases h1
            rename_i b t' hb
            have hs := (tyOf_ok hty).run_size w
            have hne : ty.size ≠ 0 := Nat.ne_of_beq_eq_false hz
            refine ⟨.pointer (some ⟨b, o + fd.offset, none⟩), ?_, .ptr _ _ _ _ hb⟩
            simp [Instr.fieldAt, run_underlying hu, hf, Instr.sureAddr, fieldPlace, hs, hne, add_plain]
          · cases hr
      · cases hk
    · cases hk
  · cases hk

theorem s_field {t : TypeId} {x : Operand} {f : Nat} {k : PK} (hk : compP P (.field t x f) = some k) {r : AV} (hr : k.ev tm = some r) :
    ∃ v, (Instr.field t (a.eval x) f).run P w = .ok v w ∧ VR ρ r v := by
  simp only [compP] at hk
  split at hk
  · rename_i fs hu
    split at hk
    · rename_i fd hf
      split at hk
      · rename_i ty hty
        obtain ⟨ax, hx, rfl⟩ := Option.map_eq_some_iff.1 hk
        simp only [PK.ev] at hr
        split at hr
        · rename_i cs hv
          have h1 := ev_sound A hx hv
          generalize a.eval x = vx at h1 ⊢
          cases h1
          rename_i ds hds
          obtain ⟨v, hv1, hv2⟩ := part_sound hty hds hr w
          exact ⟨v, by simp [Instr.field, run_underlying hu, hf, asAgg, hv1], hv2⟩
        · cases hr
      · cases hk
    · cases hk
  · cases hk

theorem s_idxA {t : TypeId} {x i : Operand} {k : PK} (hk : compP P (.indexAddr t x i) = some k) {r : AV} (hr : k.ev tm = some r) :
    ∃ v, (Instr.indexAt t (a.eval x) (a.eval i)).run P w = .ok v w ∧ VR ρ r v := by
  simp only [compP] at hk
  split at hk
  · rename_i e ax ai hu hx hi
    obtain ⟨te, hte, rfl⟩ := Option.map_eq_some_iff.1 hk
    simp only [PK.ev] at hr
    split at hr
    · rename_i id o n c e' k' j hv1 hv2
      split at hr
      · rename_i hlt
        injection hr with hr
        subst hr
        have hlt := of_eq_true_ hlt
        have h1 := ev_sound A hx hv1
        have h2 := ev_sound A hi hv2
        generalize a.eval x = vx at h1 ⊢
        generalize a.eval i = vi at h2 ⊢
        cases h2
        cases h1 with | sl _ _ _ _ _ b t' c' hb =>
        have hs := (tyOf_ok hte).run_size w
        refine ⟨.pointer (some ⟨b, o + j * te.size, none⟩), ?_, .ptr _ _ _ _ hb⟩
        have hj : (0 : Int) ≤ Int.ofNat j ∧ Int.ofNat j < (n : Int) := ⟨by simp, by simpa using hlt⟩
        simp only [Instr.indexAt, asIntOf, Sem.run_bind, Sem.run_pure, Result.andThen_ok, run_underlying hu]
        rw [if_pos hj]
        simp [hs, add_plain]
      · cases hr
    · cases hr
  · rename_i m e ax ai hu hx hi
    obtain ⟨te, hte, rfl⟩ := Option.map_eq_some_iff.1 hk
    simp only [PK.ev] at hr
    split at hr
    · rename_i id o k' j hv1 hv2
      split at hr
      · rename_i hlt
        injection hr with hr
        subst hr
        have hlt := of_eq_true_ hlt
        have h1 := ev_sound A hx hv1
        have h2 := ev_sound A hi hv2
        generalize a.eval x = vx at h1 ⊢
        generalize a.eval i = vi at h2 ⊢
        cases h2
        cases h1
        rename_i b t' hb
        have hs := (tyOf_ok hte).run_size w
        refine ⟨.pointer (some ⟨b, o + j * te.size, none⟩), ?_, .ptr _ _ _ _ hb⟩
        have hj : (0 : Int) ≤ Int.ofNat j ∧ Int.ofNat j < (m : Int) := ⟨by simp, by simpa using hlt⟩
        simp only [Instr.indexAt, asIntOf, Sem.run_bind, Sem.run_pure, Result.andThen_ok, run_underlying hu, Instr.sureAddr]
        rw [if_pos hj]
        simp [hs, add_plain]
      · cases hr
    · cases hr
  · cases hk

theorem s_idx {t : TypeId} {x i : Operand} {k : PK} (hk : compP P (.index t x i) = some k) {r : AV} (hr : k.ev tm = some r) :
    ∃ v, (Instr.index t (a.eval x) (a.eval i)).run P w = .ok v w ∧ VR ρ r v := by
  simp only [compP] at hk
  split at hk
  · rename_i n e ax ai hu hx hi
    obtain ⟨te, hte, rfl⟩ := Option.map_eq_some_iff.1 hk
    simp only [PK.ev] at hr
    split at hr
    · rename_i cs k' j hv1 hv2
      split at hr
      · rename_i hlt
        have hlt := of_eq_true_ hlt
        have h1 := ev_sound A hx hv1
        have h2 := ev_sound A hi hv2
        generalize a.eval x = vx at h1 ⊢
        generalize a.eval i = vi at h2 ⊢
        cases h2
        cases h1
        rename_i ds hds
        obtain ⟨v, hv1, hv2⟩ := part_sound (off := j * te.size) hte hds hr w
        refine ⟨v, ?_, hv2⟩
        have hs := (tyOf_ok hte).run_size w
        have hj : (0 : Int) ≤ Int.ofNat j ∧ Int.ofNat j < (n : Int) := ⟨by simp, by simpa using hlt⟩
        simp only [Instr.index, asIntOf, Sem.run_bind, Sem.run_pure, Result.andThen_ok, run_underlying hu]
        rw [if_pos hj]
        simp [hs, hv1]
      · cases hr
    · cases hr
  · rename_i ax ai hu hx hi
    injection hk with hk
    subst hk
    simp only [PK.ev] at hr
    split at hr
    · rename_i l k' j hv1 hv2
      split at hr
      · rename_i b hb
        injection hr with hr
        subst hr
        rw [getF_eq] at hb
        have h1 := ev_sound A hx hv1
        have h2 := ev_sound A hi hv2
        generalize a.eval x = vx at h1 ⊢
        generalize a.eval i = vi at h2 ⊢
        cases h2
        cases h1 with
        | str s =>
          simp only [List.getElem?_map, Option.map_eq_some_iff] at hb
          obtain ⟨u, hu1, rfl⟩ := hb
          have hlt : j < s.size := by
            have := (List.getElem?_eq_some_iff.1 hu1).1
            simpa using this
          have hsj : s[j]? = some u := by
            rw [getElem?_pos s j hlt]
            have := (List.getElem?_eq_some_iff.1 hu1).2
            congr 1
          refine ⟨.int .u8 u.toNat, ?_, .int _ _⟩
          have hj : (0 : Int) ≤ Int.ofNat j := by simp
          have ht : (Int.ofNat j).toNat = j := rfl
          simp only [Instr.index, asIntOf, Sem.run_bind, Sem.run_pure, Result.andThen_ok, run_underlying hu]
          rw [if_pos hj, ht, hsj]
          rfl
      · cases hr
    · cases hr
  · cases hk

theorem bound_sound : ∀ {y : Option Operand} {ay : Option AO} {d l : Nat} {z : Option AV}, compOo y = some ay → evo tm ay = some z → natOr d z = some l →
      (y.map a.eval = none ∧ l = d) ∨ ∃ k, y.map a.eval = some (.int k (Int.ofNat l)) := by
    intro y ay d l z h1 h2 h3
    cases y with
    | none =>
      simp only [compOo, Option.some.injEq] at h1
      subst h1
      simp only [evo, Option.some.injEq] at h2
      subst h2
      simp only [natOr, Option.some.injEq] at h3
      exact .inl ⟨rfl, h3.symm⟩
    | some y =>
      simp only [compOo, Option.map_eq_some_iff] at h1
      obtain ⟨b, hb, rfl⟩ := h1
      simp only [evo, Option.map_eq_some_iff] at h2
      obtain ⟨c, hc, rfl⟩ := h2
      simp only [natOr] at h3
      unfold natOf at h3
      split at h3
      · rename_i k n
        injection h3 with h3
        subst h3
        have h4 := ev_sound A hb hc
        refine .inr ⟨k, ?_⟩
        simp only [Option.map_some]
        generalize a.eval y = vy at h4 ⊢
        cases h4
        rfl
      · cases h3

theorem s_slc {t : TypeId} {x : Operand} {lo hi : Option Operand} {k : PK} (hk : compP P (.slice t x lo hi none) = some k) {r : AV} (hr : k.ev tm = some r) :
    ∃ v, (Instr.sliceAt t (a.eval x) (lo.map a.eval) (hi.map a.eval) none).run P w = .ok v w ∧ VR ρ r v := by
  have bound := @bound_sound ρ tm a A
  simp only [compP] at hk
  split at hk
  · rename_i e ax lo' hi' hu hx hlo hhi
    obtain ⟨te, hte, rfl⟩ := Option.map_eq_some_iff.1 hk
    simp only [PK.ev] at hr
    split at hr
    · rename_i id o n c e' lv hv hv1 hv2 hv3
      split at hr
      · rename_i l h hl hh
        split at hr
        · rename_i hc
          injection hr with hr
          subst hr
          simp only [Bool.and_eq_true, Bool.or_eq_true, Nat.ble_eq] at hc
          obtain ⟨⟨⟨hc1, hc2⟩, hc3⟩, hc4⟩ := hc
          have hc1 := Nat.eq_of_beq_eq_true hc1
          subst hc1
          have h1 := ev_sound A hx hv1
          have b1 := bound hlo hv2 hl
          have b2 := bound hhi hv3 hh
          generalize a.eval x = vx at h1 ⊢
          generalize lo.map a.eval = vlo at b1 ⊢
          generalize hi.map a.eval = vhi at b2 ⊢
          cases h1 with
          | sl _ _ _ _ _ b t' c' hb hcc ht hm he hn =>
            have hs := (tyOf_ok hte).run_size w
            have hb2 : (match (generalizing := false) vhi with
                | some v => Instr.sliceBound v c' .sliceAcap
                | none => pure n : Sem Nat).run P w = .ok h w := by
              rcases b2 with ⟨rfl, rfl⟩ | ⟨k2, rfl⟩
              · rfl
              · have : (0 : Int) ≤ Int.ofNat h ∧ Int.ofNat h ≤ (c' : Int) := ⟨by simp, by simp; omega⟩
                simp only [Instr.sliceBound, asIntOf, Sem.run_bind, Sem.run_pure, Result.andThen_ok]
                rw [if_pos this]
                rfl
            have hb1 : (match (generalizing := false) vlo with
                | some v => Instr.sliceBound v h .sliceB
                | none => pure 0 : Sem Nat).run P w = .ok l w := by
              rcases b1 with ⟨rfl, rfl⟩ | ⟨k2, rfl⟩
              · rfl
              · have : (0 : Int) ≤ Int.ofNat l ∧ Int.ofNat l ≤ (h : Int) := ⟨by simp, by simp; omega⟩
                simp only [Instr.sliceBound, asIntOf, Sem.run_bind, Sem.run_pure, Result.andThen_ok]
                rw [if_pos this]
                rfl
            have hsb : (Instr.sliceBounds true n c' vlo vhi none).run P w = .ok (l, h, c') w := by
              unfold Instr.sliceBounds
              simp only [Sem.run_bind, Sem.run_pure, Result.andThen_ok, Option.isSome_none, if_true, Bool.false_eq_true, if_false]
              cases vhi with
              | none =>
                have e2 : n = h := by simpa using hb2
                subst e2
                cases vlo with
                | none =>
                  have e1 : 0 = l := by simpa using hb1
                  subst e1
                  simp
                | some v1 =>
                  simp only at hb1
                  simp [hb1]
              | some v2 =>
                simp only at hb2
                cases vlo with
                | none =>
                  have e1 : 0 = l := by simpa using hb1
                  subst e1
                  simp [hb2]
                | some v1 =>
                  simp only at hb1
                  simp [hb1, hb2]
            have hmul : o + l * te.size + (c' - l) * te.size = t' := by
              rw [← ht, Nat.add_assoc, ← Nat.add_mul, show l + (c' - l) = c' by omega]
            refine ⟨.slice (some ⟨b, o + l * te.size, none⟩) (h - l) (c' - l), ?_, .sl _ _ _ _ _ b t' (c' - l) hb (by omega) hmul (by omega) (fun e => by rw [he e]) (by omega)⟩
            simp only [Instr.sliceAt, Instr.slice, Sem.run_bind, run_underlying hu, Result.andThen_ok, hsb, hs, Sem.run_pure, Option.map_some, add_plain]
            by_cases hcl : c' = l
            · rw [if_pos hcl]
              have hl0 : l = 0 := by
                rcases hc4 with hc4 | hc4
                · have := of_eq_true_ hc4
                  omega
                · exact Nat.eq_of_beq_eq_true hc4
              subst hl0
              simp
            · rw [if_neg hcl]
        · cases hr
      · cases hr
    · cases hr
  · rename_i ax lo' hi' hu hx hlo hhi
    injection hk with hk
    subst hk
    simp only [PK.ev] at hr
    split at hr
    · rename_i s lv hv hv1 hv2 hv3
      split at hr
      · rename_i l h hl hh
        split at hr
        · rename_i hc
          injection hr with hr
          subst hr
          simp only [Bool.and_eq_true, Nat.ble_eq] at hc
          obtain ⟨hc1, hc2⟩ := hc
          have h1 := ev_sound A hx hv1
          have b1 := bound hlo hv2 hl
          have b2 := bound hhi hv3 hh
          generalize a.eval x = vx at h1 ⊢
          generalize lo.map a.eval = vlo at b1 ⊢
          generalize hi.map a.eval = vhi at b2 ⊢
          cases h1 with
          | str s =>
            have hsz : (s.data.toList.map UInt8.toNat).length = s.size := by simp
            rw [hsz] at hc2 b2
            have hb2 : (match (generalizing := false) vhi with
                | some v => Instr.sliceBound v s.size .sliceAlen
                | none => pure s.size : Sem Nat).run P w = .ok h w := by
              rcases b2 with ⟨rfl, rfl⟩ | ⟨k2, rfl⟩
              · rfl
              · have : (0 : Int) ≤ Int.ofNat h ∧ Int.ofNat h ≤ (s.size : Int) := ⟨by simp, by simp; omega⟩
                simp only [Instr.sliceBound, asIntOf, Sem.run_bind, Sem.run_pure, Result.andThen_ok]
                rw [if_pos this]
                rfl
            have hb1 : (match (generalizing := false) vlo with
                | some v => Instr.sliceBound v h .sliceB
                | none => pure 0 : Sem Nat).run P w = .ok l w := by
              rcases b1 with ⟨rfl, rfl⟩ | ⟨k2, rfl⟩
              · rfl
              · have : (0 : Int) ≤ Int.ofNat l ∧ Int.ofNat l ≤ (h : Int) := ⟨by simp, by simp; omega⟩
                simp only [Instr.sliceBound, asIntOf, Sem.run_bind, Sem.run_pure, Result.andThen_ok]
                rw [if_pos this]
                rfl
            have hsb : (Instr.sliceBounds false s.size s.size vlo vhi none).run P w = .ok (l, h, s.size) w := by
              unfold Instr.sliceBounds
              simp only [Sem.run_bind, Sem.run_pure, Result.andThen_ok, Option.isSome_none, Bool.false_eq_true, if_false]
              cases vhi with
              | none =>
                have e2 : s.size = h := by simpa using hb2
                subst e2
                cases vlo with
                | none =>
                  have e1 : 0 = l := by simpa using hb1
                  subst e1
                  simp
                | some v1 =>
                  simp only at hb1
                  simp [hb1]
              | some v2 =>
                simp only at hb2
                cases vlo with
                | none =>
                  have e1 : 0 = l := by simpa using hb1
                  subst e1
                  simp [hb2]
                | some v1 =>
                  simp only at hb1
                  simp [hb1, hb2]
            refine ⟨.string (s.extract l h), ?_, ?_⟩
            · simp only [Instr.sliceAt, Instr.slice, Sem.run_bind, run_underlying hu, Result.andThen_ok, hsb, Sem.run_pure, Option.isSome_none, Bool.false_eq_true, if_false]
            · have := VR.str (ρ := ρ) (s.extract l h)
              rw [ByteArray.data_extract, Array.toList_extract, List.extract_eq_take_drop, List.map_take, List.map_drop] at this
              rw [takeF_eq, dropF_eq]
              exact this
        · cases hr
      · cases hr
    · cases hr
  · cases hk

theorem s_extract {x : Operand} {i : Nat} {k : PK} (hk : compP P (.extract x i) = some k) {r : AV} (hr : k.ev tm = some r) :
    ∃ v, (Instr.extract (a.eval x) i).run P w = .ok v w ∧ VR ρ r v := by
  simp only [compP] at hk
  obtain ⟨ax, hx, rfl⟩ := Option.map_eq_some_iff.1 hk
  simp only [PK.ev] at hr
  split at hr
  · rename_i vs hv
    have h1 := ev_sound A hx hv
    generalize a.eval x = vx at h1 ⊢
    cases h1 with
    | tup _ bs hb =>
      obtain ⟨v, hv1, hv2⟩ := hb.get i r hr
      have : bs[i]? = some v := by simpa using hv1
      exact ⟨v, by simp [Instr.extract, this], hv2⟩
  · cases hr

theorem s_len {x : Array Operand} {ts : Array TypeId} {ty : TypeId} {k : PK} (hk : compP P (.call { callee := .builtin .len, args := x, argTypes := ts }) = some k) {r : AV} (hr : k.ev tm = some r) :
    ∃ v, (Builtin.len_ ts ty (x.map a.eval)).run P w = .ok v w ∧ VR ρ r v := by
  simp only [compP] at hk
  split at hk
  · rename_i x0 t0 hx0 ht0
    have ex : x = #[x0] := by
      have := congrArg List.toArray hx0
      simpa using this
    have et : ts = #[t0] := by
      have := congrArg List.toArray ht0
      simpa using this
    subst ex
    subst et
    split at hk
    · rename_i e hu
      obtain ⟨ax, hx, rfl⟩ := Option.map_eq_some_iff.1 hk
      simp only [PK.ev] at hr
      simp only [List.map_toArray, List.map_cons, List.map_nil]
      split at hr
      · rename_i id o n c e' hv
        injection hr with hr
        subst hr
        have h1 := ev_sound A hx hv
        generalize a.eval x0 = vx at h1 ⊢
        cases h1 with
        | sl => exact ⟨_, by simp [Builtin.len_, run_underlying hu, goInt], .int _ _⟩
      · rename_i hv
        injection hr with hr
        subst hr
        have h1 := ev_sound A hx hv
        generalize a.eval x0 = vx at h1 ⊢
        cases h1 with
        | nils => exact ⟨.int .i64 0, by simp [Builtin.len_, run_underlying hu, goInt], .int _ _⟩
      · cases hr
    · rename_i hu
      obtain ⟨ax, hx, rfl⟩ := Option.map_eq_some_iff.1 hk
      simp only [PK.ev] at hr
      simp only [List.map_toArray, List.map_cons, List.map_nil]
      split at hr
      · rename_i l hv
        injection hr with hr
        subst hr
        have h1 := ev_sound A hx hv
        generalize a.eval x0 = vx at h1 ⊢
        cases h1 with
        | str s => exact ⟨.int .i64 s.size, by simp [Builtin.len_, run_underlying hu, goInt], by
            have : (s.data.toList.map UInt8.toNat).length = s.size := by simp
            rw [this]
            exact .int _ _⟩
      · cases hr
    · cases hk
  · cases hk

theorem s_mkfn {f : Fn} {x y : Array Operand} {k : PK} (hk : compP P (.makeFunc f x y) = some k) {r : AV} (hr : k.ev tm = some r) :
    ∃ v, (Instr.makeFunc f (x.map a.eval) (y.map a.eval)).run P w = .ok v w ∧ VR ρ r v := by
  cases f with
  | func f =>
    simp only [compP] at hk
    split at hk
    · rename_i ax ay hx hy
      injection hk with hk
      subst hk
      simp only [PK.ev] at hr
      split at hr
      · rename_i b c hb hc
        injection hr with hr
        subst hr
        exact ⟨_, rfl, .fn _ _ _ _ _ (by simpa using evs_sound A hx hb) (by simpa using evs_sound A hy hc)⟩
      · cases hr
    · cases hk
  | _ => simp [compP] at hk

theorem pure_sound {o : Op} {k : PK} (hk : compP P o = some k) {r : AV} (hr : k.ev tm = some r) (op : Oper) (ho : op.op = o) :
    ∃ v, (execOp a.eval op).run P w = .ok (.value v) w ∧ VR ρ r v := by
  have up : ∀ {s : Sem Value}, (∃ v, s.run P w = .ok v w ∧ VR ρ r v) → (∃ v, (do pure (.value (← s)) : Sem Next).run P w = .ok (.value v) w ∧ VR ρ r v) :=
    fun ⟨v, h1, h2⟩ => ⟨v, run_v P _ h1, h2⟩
  have mv : ∀ {x : Operand} {k : PK}, (compO x).map PK.mv = some k → k.ev tm = some r → ∃ v, (pure (.value (a.eval x)) : Sem Next).run P w = .ok (.value v) w ∧ VR ρ r v := by
    intro x k hk hr
    obtain ⟨ax, hx, rfl⟩ := Option.map_eq_some_iff.1 hk
    exact ⟨_, rfl, ev_sound A hx hr⟩
  unfold execOp
  rw [ho]
  cases o with
  | move x => exact mv hk hr
  | assign x => exact mv hk hr
  | pick c x y =>
    simp only [compP] at hk
    split at hk
    · rename_i ac ax ay hc hx hy
      injection hk with hk
      subst hk
      simp only [PK.ev] at hr
      split at hr
      · rename_i b vx vy h1 h2 h3
        injection hr with hr
        have e1 := ev_sound A hc h1
        have e2 := ev_sound A hx h2
        have e3 := ev_sound A hy h3
        simp only
        generalize a.eval c = vc at e1 ⊢
        cases e1
        refine ⟨if b = true then a.eval x else a.eval y, by simp [asBool], ?_⟩
        subst hr
        cases b
        · exact e3
        · exact e2
      · cases hr
    · cases hk
  | build t parts => exact up (s_build A w hk hr)
  | binOp op t x y yt => exact up (s_bin A w hk hr)
  | unOp op t x =>
    cases op with
    | not =>
      simp only [compP] at hk
      obtain ⟨ax, hx, rfl⟩ := Option.map_eq_some_iff.1 hk
      simp only [PK.ev] at hr
      split at hr
      · rename_i b hb
        injection hr with hr
        subst hr
        have e1 := ev_sound A hx hb
        simp only
        generalize a.eval x = vx at e1 ⊢
        cases e1
        exact ⟨_, by simp [Op.unary], .bool _⟩
      · cases hr
    | neg =>
      simp only [compP] at hk
      obtain ⟨ax, hx, rfl⟩ := Option.map_eq_some_iff.1 hk
      simp only [PK.ev] at hr
      split at hr
      · rename_i kk n hb
        injection hr with hr
        subst hr
        have e1 := ev_sound A hx hb
        simp only
        generalize a.eval x = vx at e1 ⊢
        cases e1
        exact ⟨.int kk (kk.wrap (0 - n)), by simp [Op.unary, Op.intArith], by rw [wrapA_eq]; exact .int _ _⟩
      · cases hr
    | _ => simp [compP] at hk
  | convert src dst x => exact up (s_conv A w hk hr)
  | makeFunc f x y => exact up (s_mkfn A w hk hr)
  | fieldAddr t x f => exact up (s_fieldA A w hk hr)
  | field t x f => exact up (s_field A w hk hr)
  | indexAddr t x i => exact up (s_idxA A w hk hr)
  | index t x i => exact up (s_idx A w hk hr)
  | extract x i => exact up (s_extract A w hk hr)
  | nilCheck x =>
    simp only [compP] at hk
    obtain ⟨ax, hx, rfl⟩ := Option.map_eq_some_iff.1 hk
    simp only [PK.ev] at hr
    split at hr
    · rename_i id o' hb
      injection hr with hr
      subst hr
      have e1 := ev_sound A hx hb
      simp only
      generalize a.eval x = vx at e1 ⊢
      cases e1 with
      | ptr _ _ b t h => exact ⟨_, rfl, .ptr _ _ b t h⟩
    · rename_i f b c hb
      injection hr with hr
      subst hr
      have e1 := ev_sound A hx hb
      simp only
      generalize a.eval x = vx at e1 ⊢
      cases e1 with
      | fn _ _ _ fs cs h1 h2 => exact ⟨_, rfl, .fn _ _ _ fs cs h1 h2⟩
    · cases hr
  | slice t x lo hi mx =>
    cases mx with
    | none => exact up (s_slc A w hk hr)
    | some m => simp [compP] at hk
  | call c =>
    obtain ⟨callee, args, ts⟩ := c
    cases callee with
    | builtin b =>
      cases b with
      | len =>
        have h1 := s_len A w (ty := op.type) hk hr
        obtain ⟨v, h1, h2⟩ := h1
        exact ⟨v, by simp [resolve, invoke, builtin, h1], h2⟩
      | min =>
        simp only [compP] at hk
        split at hk
        · rename_i x y hxy
          have ex : args = #[x, y] := by
            have := congrArg List.toArray hxy
            simpa using this
          subst ex
          split at hk
          · rename_i ax ay hx hy
            injection hk with hk
            subst hk
            simp only [PK.ev] at hr
            split at hr
            · rename_i k1 m k2 n hm hn
              injection hr with hr
              subst hr
              have e1 := ev_sound A hx hm
              have e2 := ev_sound A hy hn
              simp only [resolve, invoke, builtin, List.map_toArray, List.map_cons, List.map_nil]
              generalize a.eval x = vx at e1 ⊢
              generalize a.eval y = vy at e2 ⊢
              cases e1
              cases e2
              refine ⟨.int k1 (if n < m then n else m), by simp [Builtin.min_, Builtin.min2], ?_⟩
              by_cases h : n < m
              · simp only [h, decide_true, if_true]; exact .int _ _
              · simp only [h, decide_false, if_false]; exact .int _ _
            · cases hr
          · cases hk
        · cases hk
      | _ => simp [compP] at hk
    | _ => simp [compP] at hk
  | _ => simp [compP] at hk
end
end
end Go.Proofs.YtdndcigppbhhdaaDoorAM
