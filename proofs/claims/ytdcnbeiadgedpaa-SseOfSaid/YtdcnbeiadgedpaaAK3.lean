/-
  The interpreter over abstract values: the pure operations. (text 3)
-/
import Derived.Test.YtdcnbeiadgedpaaAK2
import Derived.Laws.Tables
namespace Go.Proofs.YtdcnbeiadgedpaaAK
open Go.RowKit
set_option linter.unusedSimpArgs false
set_option linter.unusedVariables false
noncomputable section

inductive PK where
  | mv (x : AO)
  | pick (c a b : AO)
  | build (base : List AV) (parts : List (Nat × Nat × AO))
  | bin (op : BinOp) (x y : AO)
  | eqb (ng : Bool) (x y : AO)
  | not (x : AO)
  | neg (x : AO)
  | conv (k : IntKind) (x : AO)
  | mkfn (f : Nat) (fs cs : List AO)
  | fieldA (off : Nat) (x : AO)
  | field (agg : Bool) (off sz : Nat) (x : AO)
  | idxA (e : Nat) (x i : AO)
  | idxP (n e : Nat) (x i : AO)
  | idx (agg : Bool) (n e : Nat) (x i : AO)
  | extract (x : AO) (i : Nat)
  | len (x : AO)
  | nilc (x : AO)
  | slc (e : Nat) (x : AO) (lo hi : Option AO)
  deriving Inhabited

def evo (tm : T AV) : Option AO → Option (Option AV)
  | none => some none
  | some x => (x.ev tm).map some
def natOf : AV → Option Nat
  | .int _ (.ofNat n) => some n
  | _ => none
def natOr (d : Nat) : Option AV → Option Nat
  | none => some d
  | some v => natOf v

def PK.ev (tm : T AV) : PK → Option AV
  | .mv x => x.ev tm
  | .pick c a b => match c.ev tm, a.ev tm, b.ev tm with
    | some (.bool c), some a, some b => some (match c with | true => a | false => b)
    | _, _, _ => none
  | .build base parts => match fillA tm base parts with
    | some cs => some (.agg cs)
    | none => none
  | .bin op x y => match x.ev tm, y.ev tm with
    | some (.int k a), some (.int k' b) => ibin op k a k' b
    | some (.int k a), some (.num (.off l)) => nbin op k a l
    | _, _ => none
  | .eqb ng x y => match x.ev tm, y.ev tm with
    | some (.bool a), some (.bool b) => some (.bool (match ng with | true => !(a == b) | false => a == b))
    | _, _ => none
  | .not x => match x.ev tm with
    | some (.bool b) => some (.bool (!b))
    | _ => none
  | .neg x => match x.ev tm with
    | some (.int k n) => some (.int k (wrapA k (0 - n)))
    | _ => none
  | .conv k x => match x.ev tm with
    | some (.int _ n) => some (.int k (wrapA k n))
    | _ => none
  | .mkfn f fs cs => match evs tm fs, evs tm cs with
    | some a, some b => some (.fn f a b)
    | _, _ => none
  | .fieldA off x => match x.ev tm with
    | some (.ptr id o) => some (.ptr id (o + off))
    | _ => none
  | .field agg off sz x => match x.ev tm with
    | some (.agg cs) => match agg with
      | true => match Nat.ble (off + sz) cs.length with
        | true => some (.agg ((cs.drop off).take sz))
        | false => none
      | false => cs[off]?
    | _ => none
  | .idxA e x i => match x.ev tm, i.ev tm with
    | some (.sl id o n _ _), some (.int _ (.ofNat j)) => match Nat.blt j n with
      | true => some (.ptr id (o + j * e))
      | false => none
    | _, _ => none
  | .idxP n e x i => match x.ev tm, i.ev tm with
    | some (.ptr id o), some (.int _ (.ofNat j)) => match Nat.blt j n with
      | true => some (.ptr id (o + j * e))
      | false => none
    | _, _ => none
  | .idx agg n e x i => match x.ev tm, i.ev tm with
    | some (.agg cs), some (.int _ (.ofNat j)) => match Nat.blt j n with
      | true => match agg with
        | true => match Nat.ble (j * e + e) cs.length with
          | true => some (.agg ((cs.drop (j * e)).take e))
          | false => none
        | false => cs[j * e]?
      | false => none
    | _, _ => none
  | .extract x i => match x.ev tm with
    | some (.tup vs) => vs[i]?
    | _ => none
  | .len x => match x.ev tm with
    | some (.sl _ _ n _ _) => some (.int .i64 n)
    | some .nils => some (.int .i64 0)
    | _ => none
  | .nilc x => match x.ev tm with
    | some (.ptr id o) => some (.ptr id o)
    | some (.fn f a b) => some (.fn f a b)
    | _ => none
  | .slc e x lo hi => match x.ev tm, evo tm lo, evo tm hi with
    | some (.sl id o n c e'), some lo, some hi => match natOr 0 lo, natOr n hi with
      | some l, some h => match Nat.beq e e' && Nat.ble l h && Nat.ble h c && (Nat.blt l c || Nat.beq l 0) with
        | true => some (.sl id (o + l * e) (h - l) (c - l) e)
        | false => none
      | _, _ => none
    | _, _, _ => none

def compOo : Option Operand → Option (Option AO)
  | none => some none
  | some x => (compO x).map some

def compP (P : Program) : Op → Option PK
  | .move x | .assign x => (compO x).map .mv
  | .pick c a b => match compO c, compO a, compO b with
    | some c, some a, some b => some (.pick c a b)
    | _, _, _ => none
  | .build t parts => match tyOf P t with
    | some ty => match ty.zero, ty.d with
      | some z, .struct fs => match fs.toList.mapM (fun f => (P.info? f.type).map fun i => (f.offset, i.size)) with
        | some places => (compParts (places.toArray[·]?) parts.toList).map (.build z)
        | none => none
      | some z, .array n e => match tyOf P e with
        | some te => (compParts (fun i => some (i * te.size, te.size)) parts.toList).map (.build z)
        | none => none
      | _, _ => none
    | none => none
  | .binOp op t x y _ => match compO x, compO y with
    | some ax, some ay => match P.underlying t, op with
      | some .bool, .eql => some (.eqb false ax ay)
      | some .bool, .neq => some (.eqb true ax ay)
      | some (.int _), op => some (.bin op ax ay)
      | _, _ => none
    | _, _ => none
  | .unOp .not _ x => (compO x).map .not
  | .unOp .neg _ x => (compO x).map .neg
  | .convert src dst x => match P.underlying src, P.underlying dst with
    | some (.int _), some (.int k) => (compO x).map (.conv k)
    | _, _ => none
  | .makeFunc (.func f) fs cs => match compOs fs.toList, compOs cs.toList with
    | some a, some b => some (.mkfn f a b)
    | _, _ => none
  | .fieldAddr t x f => match P.underlying t with
    | some (.struct fs) => match fs[f]? with
      | some fd => match tyOf P fd.type with
        | some ty => match Nat.beq ty.size 0 with
          | true => none
          | false => (compO x).map (.fieldA fd.offset)
        | none => none
      | none => none
    | _ => none
  | .field t x f => match P.underlying t with
    | some (.struct fs) => match fs[f]? with
      | some fd => match tyOf P fd.type with
        | some ty => (compO x).map (.field ty.agg fd.offset ty.size)
        | none => none
      | none => none
    | _ => none
  | .indexAddr t x i => match P.underlying t, compO x, compO i with
    | some (.slice e), some ax, some ai => (tyOf P e).map fun te => .idxA te.size ax ai
    | some (.array n e), some ax, some ai => (tyOf P e).map fun te => .idxP n te.size ax ai
    | _, _, _ => none
  | .index t x i => match P.underlying t, compO x, compO i with
    | some (.array n e), some ax, some ai => (tyOf P e).map fun te => .idx te.agg n te.size ax ai
    | _, _, _ => none
  | .extract x i => (compO x).map fun ax => .extract ax i
  | .nilCheck x => (compO x).map .nilc
  | .slice t x lo hi none => match P.underlying t, compO x, compOo lo, compOo hi with
    | some (.slice e), some ax, some lo, some hi => (tyOf P e).map fun te => .slc te.size ax lo hi
    | _, _, _, _ => none
  | .call { callee := .builtin .len, args := args, argTypes := ts } => match args.toList, ts.toList with
    | [x], [t] => match P.underlying t with
      | some (.slice _) => (compO x).map .len
      | _ => none
    | _, _ => none
  | _ => none

theorem run_v (P : Program) (s : Sem Value) {v : Value} {w w' : World} (h : s.run P w = .ok v w') : (do pure (.value (← s)) : Sem Next).run P w = .ok (.value v) w' := by
  simp [h]

theorem add_plain (b o n : Nat) : (⟨b, o, none⟩ : Addr).add n = ⟨b, o + n, none⟩ := by unfold Addr.add; split <;> simp_all

theorem part_sound {P : Program} {t : TypeId} {ty : TyA} (h : tyOf P t = some ty) {ρ : Ren} {cs : List AV} {ds : Array Value} (hc : VRL ρ cs ds.toList) {off : Nat} {r : AV}
    (hr : (match ty.agg with
      | true => match Nat.ble (off + ty.size) cs.length with
        | true => some (.agg ((cs.drop off).take ty.size))
        | false => none
      | false => cs[off]?) = some r) (w : World) : ∃ v, (part t ds off).run P w = .ok v w ∧ VR ρ r v := by
  have ok := tyOf_ok h
  cases ha : ty.agg with
  | true =>
    simp only [ha] at hr
    split at hr
    · rename_i hl
      injection hr with hr
      subst hr
      have hl := Nat.ble_eq.mp hl
      refine ⟨.agg (ds.extract off (off + ty.size)), by simp [part, ok.run_agg, ok.run_size, ha], .agg _ _ ?_⟩
      have := (hc.drop off).take ty.size
      rw [Array.toList_extract]
      simpa [List.extract_eq_take_drop] using this
    · cases hr
  | false =>
    simp only [ha] at hr
    obtain ⟨v, hv, hvr⟩ := hc.get off r hr
    refine ⟨v, ?_, hvr⟩
    have hv' : ds[off]? = some v := by simpa using hv
    simp [part, ok.run_agg, ha, hv']

theorem run_eq_bool {P : Program} {t : TypeId} (hu : P.underlying t = some .bool) (a b : Bool) (w : World) : (Op.equal t (.bool a) (.bool b)).run P w = .ok (a == b) w := by
  unfold Op.equal Op.maxDepth
  rw [show (10000 : Nat) = 9999 + 1 from rfl, Op.equalIn]
  simp only [Sem.run_bind, run_underlying hu, Result.andThen_ok, Sem.run_pure]

section
variable {P : Program} {ρ : Ren} {tm : T AV} {a : Act} (A : AR ρ tm a.tmps) (w : World)
include A

theorem s_build {t : TypeId} {parts : Array (Nat × Operand)} {k : PK} (hk : compP P (.build t parts) = some k) {r : AV} (hr : k.ev tm = some r) :
    ∃ v, (Instr.build t (parts.map fun (i, x) => (i, a.eval x))).run P w = .ok v w ∧ VR ρ r v := by
  have eP : ∀ l : Array (Nat × Operand), (l.map fun (i, x) => (i, a.eval x)).toList = l.toList.map fun (i, x) => (i, a.eval x) := fun l => by simp
  simp only [compP] at hk
  split at hk
  · rename_i ty hty
    have ok := tyOf_ok hty
    obtain ⟨it, hi, hsz, _, hzz⟩ := ok.info
    have hund := ok.und
    split at hk
    · rename_i z fs hz hd
      rw [hd] at hund
      obtain ⟨zv, hz1, hz2⟩ := hzz z hz
      split at hk
      · rename_i places hpl
        obtain ⟨aps, hp, rfl⟩ := Option.map_eq_some_iff.1 hk
        simp only [PK.ev] at hr
        split at hr
        · rename_i cs hcs
          injection hr with hr
          subst hr
          obtain ⟨cells', e1, e2, _⟩ := fill_sound A _ hp (hz2 ρ) hcs
          exact ⟨.agg cells', run_build w t _ cells' (by simp only [Program.built, hi, hund, hz1, hpl, eP]; exact e1), .agg _ _ e2⟩
        · cases hr
      · cases hk
    · rename_i z n e hz hd
      rw [hd] at hund
      obtain ⟨zv, hz1, hz2⟩ := hzz z hz
      split at hk
      · rename_i te hte
        obtain ⟨ie, hie, hse, _, _⟩ := (tyOf_ok hte).info
        obtain ⟨aps, hp, rfl⟩ := Option.map_eq_some_iff.1 hk
        simp only [PK.ev] at hr
        split at hr
        · rename_i cs hcs
          injection hr with hr
          subst hr
          rw [← hse] at hp
          obtain ⟨cells', e1, e2, _⟩ := fill_sound A _ hp (hz2 ρ) hcs
          exact ⟨.agg cells', run_build w t _ cells' (by simp only [Program.built, hi, hund, hz1, hie, eP]; exact e1), .agg _ _ e2⟩
        · cases hr
      · cases hk
    · cases hk
  · cases hk

theorem s_bin {op : BinOp} {t yt : TypeId} {x y : Operand} {k : PK} (hk : compP P (.binOp op t x y yt) = some k) {r : AV} (hr : k.ev tm = some r) :
    ∃ v, (do eqGuard op t x y (a.eval x) (a.eval y); binOp op t (a.eval x) (a.eval y) : Sem Value).run P w = .ok v w ∧ VR ρ r v := by
  simp only [compP] at hk
  split at hk
  · rename_i ax ay hx hy
    split at hk
    · rename_i hu
      injection hk with hk
      subst hk
      simp only [PK.ev] at hr
      split at hr
      · rename_i b c hb hc
        injection hr with hr
        subst hr
        have h1 := ev_sound A hx hb
        have h2 := ev_sound A hy hc
        generalize a.eval x = vx at h1 ⊢
        generalize a.eval y = vy at h2 ⊢
        cases h1
        cases h2
        exact ⟨.bool (b == c), by simp [eqGuard, binOp, run_eq_bool hu], .bool _⟩
      · cases hr
    · rename_i hu
      injection hk with hk
      subst hk
      simp only [PK.ev] at hr
      split at hr
      · rename_i b c hb hc
        injection hr with hr
        subst hr
        have h1 := ev_sound A hx hb
        have h2 := ev_sound A hy hc
        generalize a.eval x = vx at h1 ⊢
        generalize a.eval y = vy at h2 ⊢
        cases h1
        cases h2
        exact ⟨.bool (!(b == c)), by simp [eqGuard, binOp, run_eq_bool hu], .bool _⟩
      · cases hr
    · injection hk with hk
      subst hk
      simp only [PK.ev] at hr
      split at hr
      · rename_i k1 b k2 c hb hc
        have h1 := ev_sound A hx hb
        have h2 := ev_sound A hy hc
        generalize a.eval x = vx at h1 ⊢
        generalize a.eval y = vy at h2 ⊢
        cases h1
        cases h2
        exact ibin_sound hr t x y w ρ
      · rename_i k1 b l hb hc
        have h1 := ev_sound A hx hb
        have h2 := ev_sound A hy hc
        generalize a.eval x = vx at h1 ⊢
        generalize a.eval y = vy at h2 ⊢
        cases h1
        cases h2 with
        | num q b h => exact nbin_sound hr h t x y w ρ
      · cases hr
    · cases hk
  · cases hk

theorem s_conv {src dst : TypeId} {x : Operand} {k : PK} (hk : compP P (.convert src dst x) = some k) {r : AV} (hr : k.ev tm = some r) :
    ∃ v, (convert src dst (a.eval x)).run P w = .ok v w ∧ VR ρ r v := by
  simp only [compP] at hk
  split at hk
  · rename_i k1 k2 h1 h2
    obtain ⟨ax, hx, rfl⟩ := Option.map_eq_some_iff.1 hk
    simp only [PK.ev] at hr
    split at hr
    · rename_i k3 n hn
      injection hr with hr
      subst hr
      have h3 := ev_sound A hx hn
      generalize a.eval x = vx at h3 ⊢
      cases h3
      exact ⟨.int k2 (k2.wrap n), by simp [convert, run_underlying h1, run_underlying h2, Conv.intToInt], by rw [wrapA_eq]; exact .int _ _⟩
    · cases hr
  · cases hk

theorem s_fieldA {t : TypeId} {x : Operand} {f : Nat} {k : PK} (hk : compP P (.fieldAddr t x f) = some k) {r : AV} (hr : k.ev tm = some r) :
    ∃ v, (Instr.fieldAt t (a.eval x) f).run P w = .ok v w ∧ VR ρ r v := by
  simp only [compP] at hk
  split at hk
  · rename_i fs hu
    split at hk
    · rename_i fd hf
      split at hk
      · rename_i ty hty
        split at hk
        · cases hk
        · rename_i hz
          obtain ⟨ax, hx, rfl⟩ := Option.map_eq_some_iff.1 hk
          simp only [PK.ev] at hr
          split at hr
          · rename_i id o hv
            injection hr with hr
            subst hr
            have h1 := ev_sound A hx hv
            generalize a.eval x = vx at h1 ⊢
            cases h1
            rename_i b t' hb
            have hs := (tyOf_ok hty).run_size w
            have hne : ty.size ≠ 0 := Nat.ne_of_beq_eq_false hz
            refine ⟨.pointer (some ⟨b, o + fd.offset, none⟩), ?_, .ptr _ _ _ _ hb⟩
            simp [Instr.fieldAt, run_underlying hu, hf, Instr.sureAddr, fieldPlace, hs, hne, add_plain]
          · cases hr
      · cases hk
    · cases hk
  · cases hk

theorem s_field {t : TypeId} {x : Operand} {f : Nat} {k : PK} (hk : compP P (.field t x f) = some k) {r : AV} (hr : k.ev tm = some r) :
    ∃ v, (Instr.field t (a.eval x) f).run P w = .ok v w ∧ VR ρ r v := by
  simp only [compP] at hk
  split at hk
  · rename_i fs hu
    split at hk
    · rename_i fd hf
      split at hk
      · rename_i ty hty
        obtain ⟨ax, hx, rfl⟩ := Option.map_eq_some_iff.1 hk
        simp only [PK.ev] at hr
        split at hr
        · rename_i cs hv
          have h1 := ev_sound A hx hv
          generalize a.eval x = vx at h1 ⊢
          cases h1
          rename_i ds hds
          obtain ⟨v, hv1, hv2⟩ := part_sound hty hds hr w
          exact ⟨v, by simp [Instr.field, run_underlying hu, hf, asAgg, hv1], hv2⟩
        · cases hr
      · cases hk
    · cases hk
  · cases hk

theorem s_idxA {t : TypeId} {x i : Operand} {k : PK} (hk : compP P (.indexAddr t x i) = some k) {r : AV} (hr : k.ev tm = some r) :
    ∃ v, (Instr.indexAt t (a.eval x) (a.eval i)).run P w = .ok v w ∧ VR ρ r v := by
  simp only [compP] at hk
  split at hk
  · rename_i e ax ai hu hx hi
    obtain ⟨te, hte, rfl⟩ := Option.map_eq_some_iff.1 hk
    simp only [PK.ev] at hr
    split at hr
    · rename_i id o n c e' k' j hv1 hv2
      split at hr
      · rename_i hlt
        injection hr with hr
        subst hr
        have hlt := of_eq_true_ hlt
        have h1 := ev_sound A hx hv1
        have h2 := ev_sound A hi hv2
        generalize a.eval x = vx at h1 ⊢
        generalize a.eval i = vi at h2 ⊢
        cases h2
        cases h1 with | sl _ _ _ _ _ b t' c' hb =>
        have hs := (tyOf_ok hte).run_size w
        refine ⟨.pointer (some ⟨b, o + j * te.size, none⟩), ?_, .ptr _ _ _ _ hb⟩
        have hj : (0 : Int) ≤ Int.ofNat j ∧ Int.ofNat j < (n : Int) := ⟨by simp, by simpa using hlt⟩
        simp only [Instr.indexAt, asIntOf, Sem.run_bind, Sem.run_pure, Result.andThen_ok, run_underlying hu]
        rw [if_pos hj]
        simp [hs, add_plain]
      · cases hr
    · cases hr
  · rename_i m e ax ai hu hx hi
    obtain ⟨te, hte, rfl⟩ := Option.map_eq_some_iff.1 hk
    simp only [PK.ev] at hr
    split at hr
    · rename_i id o k' j hv1 hv2
      split at hr
      · rename_i hlt
        injection hr with hr
        subst hr
        have hlt := of_eq_true_ hlt
        have h1 := ev_sound A hx hv1
        have h2 := ev_sound A hi hv2
        generalize a.eval x = vx at h1 ⊢
        generalize a.eval i = vi at h2 ⊢
        cases h2
        cases h1
        rename_i b t' hb
        have hs := (tyOf_ok hte).run_size w
        refine ⟨.pointer (some ⟨b, o + j * te.size, none⟩), ?_, .ptr _ _ _ _ hb⟩
        have hj : (0 : Int) ≤ Int.ofNat j ∧ Int.ofNat j < (m : Int) := ⟨by simp, by simpa using hlt⟩
        simp only [Instr.indexAt, asIntOf, Sem.run_bind, Sem.run_pure, Result.andThen_ok, run_underlying hu, Instr.sureAddr]
        rw [if_pos hj]
        simp [hs, add_plain]
      · cases hr
    · cases hr
  · cases hk

theorem s_idx {t : TypeId} {x i : Operand} {k : PK} (hk : compP P (.index t x i) = some k) {r : AV} (hr : k.ev tm = some r) :
    ∃ v, (Instr.index t (a.eval x) (a.eval i)).run P w = .ok v w ∧ VR ρ r v := by
  simp only [compP] at hk
  split at hk
  · rename_i n e ax ai hu hx hi
    obtain ⟨te, hte, rfl⟩ := Option.map_eq_some_iff.1 hk
    simp only [PK.ev] at hr
    split at hr
    · rename_i cs k' j hv1 hv2
      split at hr
      · rename_i hlt
        have hlt := of_eq_true_ hlt
        have h1 := ev_sound A hx hv1
        have h2 := ev_sound A hi hv2
        generalize a.eval x = vx at h1 ⊢
        generalize a.eval i = vi at h2 ⊢
        cases h2
        cases h1
        rename_i ds hds
        obtain ⟨v, hv1, hv2⟩ := part_sound (off := j * te.size) hte hds hr w
        refine ⟨v, ?_, hv2⟩
        have hs := (tyOf_ok hte).run_size w
        have hj : (0 : Int) ≤ Int.ofNat j ∧ Int.ofNat j < (n : Int) := ⟨by simp, by simpa using hlt⟩
        simp only [Instr.index, asIntOf, Sem.run_bind, Sem.run_pure, Result.andThen_ok, run_underlying hu]
        rw [if_pos hj]
        simp [hs, hv1]
      · cases hr
    · cases hr
  · cases hk

theorem s_slc {t : TypeId} {x : Operand} {lo hi : Option Operand} {k : PK} (hk : compP P (.slice t x lo hi none) = some k) {r : AV} (hr : k.ev tm = some r) :
    ∃ v, (Instr.sliceAt t (a.eval x) (lo.map a.eval) (hi.map a.eval) none).run P w = .ok v w ∧ VR ρ r v := by
  have bound : ∀ {y : Option Operand} {ay : Option AO} {d l : Nat} {z : Option AV}, compOo y = some ay → evo tm ay = some z → natOr d z = some l →
      (y.map a.eval = none ∧ l = d) ∨ ∃ k, y.map a.eval = some (.int k (Int.ofNat l)) := by
    intro y ay d l z h1 h2 h3
    cases y with
    | none =>
      simp only [compOo, Option.some.injEq] at h1
      subst h1
      simp only [evo, Option.some.injEq] at h2
      subst h2
      simp only [natOr, Option.some.injEq] at h3
      exact .inl ⟨rfl, h3.symm⟩
    | some y =>
      simp only [compOo, Option.map_eq_some_iff] at h1
      obtain ⟨b, hb, rfl⟩ := h1
      simp only [evo, Option.map_eq_some_iff] at h2
      obtain ⟨c, hc, rfl⟩ := h2
      simp only [natOr] at h3
      unfold natOf at h3
      split at h3
      · rename_i k n
        injection h3 with h3
        subst h3
        have h4 := ev_sound A hb hc
        refine .inr ⟨k, ?_⟩
        simp only [Option.map_some]
        generalize a.eval y = vy at h4 ⊢
        cases h4
        rfl
      · cases h3
  simp only [compP] at hk
  split at hk
  · rename_i e ax lo' hi' hu hx hlo hhi
    obtain ⟨te, hte, rfl⟩ := Option.map_eq_some_iff.1 hk
    simp only [PK.ev] at hr
    split at hr
    · rename_i id o n c e' lv hv hv1 hv2 hv3
      split at hr
      · rename_i l h hl hh
        split at hr
        · rename_i hc
          injection hr with hr
          subst hr
          simp only [Bool.and_eq_true, Bool.or_eq_true, Nat.ble_eq] at hc
          obtain ⟨⟨⟨hc1, hc2⟩, hc3⟩, hc4⟩ := hc
          have hc1 := Nat.eq_of_beq_eq_true hc1
          subst hc1
          have h1 := ev_sound A hx hv1
          have b1 := bound hlo hv2 hl
          have b2 := bound hhi hv3 hh
          generalize a.eval x = vx at h1 ⊢
          generalize lo.map a.eval = vlo at b1 ⊢
          generalize hi.map a.eval = vhi at b2 ⊢
          cases h1 with
          | sl _ _ _ _ _ b t' c' hb hcc ht hm he hn =>
            have hs := (tyOf_ok hte).run_size w
            have hb2 : (match (generalizing := false) vhi with
                | some v => Instr.sliceBound v c' .sliceAcap
                | none => pure n : Sem Nat).run P w = .ok h w := by
              rcases b2 with ⟨rfl, rfl⟩ | ⟨k2, rfl⟩
              · rfl
              · have : (0 : Int) ≤ Int.ofNat h ∧ Int.ofNat h ≤ (c' : Int) := ⟨by simp, by simp; omega⟩
                simp only [Instr.sliceBound, asIntOf, Sem.run_bind, Sem.run_pure, Result.andThen_ok]
                rw [if_pos this]
                rfl
            have hb1 : (match (generalizing := false) vlo with
                | some v => Instr.sliceBound v h .sliceB
                | none => pure 0 : Sem Nat).run P w = .ok l w := by
              rcases b1 with ⟨rfl, rfl⟩ | ⟨k2, rfl⟩
              · rfl
              · have : (0 : Int) ≤ Int.ofNat l ∧ Int.ofNat l ≤ (h : Int) := ⟨by simp, by simp; omega⟩
                simp only [Instr.sliceBound, asIntOf, Sem.run_bind, Sem.run_pure, Result.andThen_ok]
                rw [if_pos this]
                rfl
            have hsb : (Instr.sliceBounds true n c' vlo vhi none).run P w = .ok (l, h, c') w := by
              unfold Instr.sliceBounds
              simp only [Sem.run_bind, Sem.run_pure, Result.andThen_ok, Option.isSome_none, if_true, Bool.false_eq_true, if_false]
              cases vhi with
              | none =>
                have e2 : n = h := by simpa using hb2
                subst e2
                cases vlo with
                | none =>
                  have e1 : 0 = l := by simpa using hb1
                  subst e1
                  simp
                | some v1 =>
                  simp only at hb1
                  simp [hb1]
              | some v2 =>
                simp only at hb2
                cases vlo with
                | none =>
                  have e1 : 0 = l := by simpa using hb1
                  subst e1
                  simp [hb2]
                | some v1 =>
                  simp only at hb1
                  simp [hb1, hb2]
            have hmul : o + l * te.size + (c' - l) * te.size = t' := by
              rw [← ht, Nat.add_assoc, ← Nat.add_mul, show l + (c' - l) = c' by omega]
            refine ⟨.slice (some ⟨b, o + l * te.size, none⟩) (h - l) (c' - l), ?_, .sl _ _ _ _ _ b t' (c' - l) hb (by omega) hmul (by omega) (fun e => by rw [he e]) (by omega)⟩
            simp only [Instr.sliceAt, Instr.slice, Sem.run_bind, run_underlying hu, Result.andThen_ok, hsb, hs, Sem.run_pure, Option.map_some, add_plain]
            by_cases hcl : c' = l
            · rw [if_pos hcl]
              have hl0 : l = 0 := by
                rcases hc4 with hc4 | hc4
                · have := of_eq_true_ hc4
                  omega
                · exact Nat.eq_of_beq_eq_true hc4
              subst hl0
              simp
            · rw [if_neg hcl]
        · cases hr
      · cases hr
    · cases hr
  · cases hk

theorem s_extract {x : Operand} {i : Nat} {k : PK} (hk : compP P (.extract x i) = some k) {r : AV} (hr : k.ev tm = some r) :
    ∃ v, (Instr.extract (a.eval x) i).run P w = .ok v w ∧ VR ρ r v := by
  simp only [compP] at hk
  obtain ⟨ax, hx, rfl⟩ := Option.map_eq_some_iff.1 hk
  simp only [PK.ev] at hr
  split at hr
  · rename_i vs hv
    have h1 := ev_sound A hx hv
    generalize a.eval x = vx at h1 ⊢
    cases h1 with
    | tup _ bs hb =>
      obtain ⟨v, hv1, hv2⟩ := hb.get i r hr
      have : bs[i]? = some v := by simpa using hv1
      exact ⟨v, by simp [Instr.extract, this], hv2⟩
  · cases hr

theorem s_len {x : Array Operand} {ts : Array TypeId} {ty : TypeId} {k : PK} (hk : compP P (.call { callee := .builtin .len, args := x, argTypes := ts }) = some k) {r : AV} (hr : k.ev tm = some r) :
    ∃ v, (Builtin.len_ ts ty (x.map a.eval)).run P w = .ok v w ∧ VR ρ r v := by
  simp only [compP] at hk
  split at hk
  · rename_i x0 t0 hx0 ht0
    have ex : x = #[x0] := by
      have := congrArg List.toArray hx0
      simpa using this
    have et : ts = #[t0] := by
      have := congrArg List.toArray ht0
      simpa using this
    subst ex
    subst et
    split at hk
    · rename_i e hu
      obtain ⟨ax, hx, rfl⟩ := Option.map_eq_some_iff.1 hk
      simp only [PK.ev] at hr
      simp only [List.map_toArray, List.map_cons, List.map_nil]
      split at hr
      · rename_i id o n c e' hv
        injection hr with hr
        subst hr
        have h1 := ev_sound A hx hv
        generalize a.eval x0 = vx at h1 ⊢
        cases h1 with
        | sl => exact ⟨_, by simp [Builtin.len_, run_underlying hu, goInt], .int _ _⟩
      · rename_i hv
        injection hr with hr
        subst hr
        have h1 := ev_sound A hx hv
        generalize a.eval x0 = vx at h1 ⊢
        cases h1 with
        | nils => exact ⟨.int .i64 0, by simp [Builtin.len_, run_underlying hu, goInt], .int _ _⟩
      · cases hr
    · cases hk
  · cases hk

theorem s_mkfn {f : Fn} {x y : Array Operand} {k : PK} (hk : compP P (.makeFunc f x y) = some k) {r : AV} (hr : k.ev tm = some r) :
    ∃ v, (Instr.makeFunc f (x.map a.eval) (y.map a.eval)).run P w = .ok v w ∧ VR ρ r v := by
  cases f with
  | func f =>
    simp only [compP] at hk
    split at hk
    · rename_i ax ay hx hy
      injection hk with hk
      subst hk
      simp only [PK.ev] at hr
      split at hr
      · rename_i b c hb hc
        injection hr with hr
        subst hr
        exact ⟨_, rfl, .fn _ _ _ _ _ (by simpa using evs_sound A hx hb) (by simpa using evs_sound A hy hc)⟩
      · cases hr
    · cases hk
  | _ => simp [compP] at hk

theorem pure_sound {o : Op} {k : PK} (hk : compP P o = some k) {r : AV} (hr : k.ev tm = some r) (op : Oper) (ho : op.op = o) :
    ∃ v, (execOp a.eval op).run P w = .ok (.value v) w ∧ VR ρ r v := by
  have up : ∀ {s : Sem Value}, (∃ v, s.run P w = .ok v w ∧ VR ρ r v) → (∃ v, (do pure (.value (← s)) : Sem Next).run P w = .ok (.value v) w ∧ VR ρ r v) :=
    fun ⟨v, h1, h2⟩ => ⟨v, run_v P _ h1, h2⟩
  have mv : ∀ {x : Operand} {k : PK}, (compO x).map PK.mv = some k → k.ev tm = some r → ∃ v, (pure (.value (a.eval x)) : Sem Next).run P w = .ok (.value v) w ∧ VR ρ r v := by
    intro x k hk hr
    obtain ⟨ax, hx, rfl⟩ := Option.map_eq_some_iff.1 hk
    exact ⟨_, rfl, ev_sound A hx hr⟩
  unfold execOp
  rw [ho]
  cases o with
  | move x => exact mv hk hr
  | assign x => exact mv hk hr
  | pick c x y =>
    simp only [compP] at hk
    split at hk
    · rename_i ac ax ay hc hx hy
      injection hk with hk
      subst hk
      simp only [PK.ev] at hr
      split at hr
      · rename_i b vx vy h1 h2 h3
        injection hr with hr
        have e1 := ev_sound A hc h1
        have e2 := ev_sound A hx h2
        have e3 := ev_sound A hy h3
        simp only
        generalize a.eval c = vc at e1 ⊢
        cases e1
        refine ⟨if b = true then a.eval x else a.eval y, by simp [asBool], ?_⟩
        subst hr
        cases b
        · exact e3
        · exact e2
      · cases hr
    · cases hk
  | build t parts => exact up (s_build A w hk hr)
  | binOp op t x y yt => exact up (s_bin A w hk hr)
  | unOp op t x =>
    cases op with
    | not =>
      simp only [compP] at hk
      obtain ⟨ax, hx, rfl⟩ := Option.map_eq_some_iff.1 hk
      simp only [PK.ev] at hr
      split at hr
      · rename_i b hb
        injection hr with hr
        subst hr
        have e1 := ev_sound A hx hb
        simp only
        generalize a.eval x = vx at e1 ⊢
        cases e1
        exact ⟨_, by simp [Op.unary], .bool _⟩
      · cases hr
    | neg =>
      simp only [compP] at hk
      obtain ⟨ax, hx, rfl⟩ := Option.map_eq_some_iff.1 hk
      simp only [PK.ev] at hr
      split at hr
      · rename_i kk n hb
        injection hr with hr
        subst hr
        have e1 := ev_sound A hx hb
        simp only
        generalize a.eval x = vx at e1 ⊢
        cases e1
        exact ⟨.int kk (kk.wrap (0 - n)), by simp [Op.unary, Op.intArith], by rw [wrapA_eq]; exact .int _ _⟩
      · cases hr
    | _ => simp [compP] at hk
  | convert src dst x => exact up (s_conv A w hk hr)
  | makeFunc f x y => exact up (s_mkfn A w hk hr)
  | fieldAddr t x f => exact up (s_fieldA A w hk hr)
  | field t x f => exact up (s_field A w hk hr)
  | indexAddr t x i => exact up (s_idxA A w hk hr)
  | index t x i => exact up (s_idx A w hk hr)
  | extract x i => exact up (s_extract A w hk hr)
  | nilCheck x =>
    simp only [compP] at hk
    obtain ⟨ax, hx, rfl⟩ := Option.map_eq_some_iff.1 hk
    simp only [PK.ev] at hr
    split at hr
    · rename_i id o' hb
      injection hr with hr
      subst hr
      have e1 := ev_sound A hx hb
      simp only
      generalize a.eval x = vx at e1 ⊢
      cases e1 with
      | ptr _ _ b t h => exact ⟨_, rfl, .ptr _ _ b t h⟩
    · rename_i f b c hb
      injection hr with hr
      subst hr
      have e1 := ev_sound A hx hb
      simp only
      generalize a.eval x = vx at e1 ⊢
      cases e1 with
      | fn _ _ _ fs cs h1 h2 => exact ⟨_, rfl, .fn _ _ _ fs cs h1 h2⟩
    · cases hr
  | slice t x lo hi mx =>
    cases mx with
    | none => exact up (s_slc A w hk hr)
    | some m => simp [compP] at hk
  | call c =>
    obtain ⟨callee, args, ts⟩ := c
    cases callee with
    | builtin b =>
      cases b with
      | len =>
        have h1 := s_len A w (ty := op.type) hk hr
        obtain ⟨v, h1, h2⟩ := h1
        exact ⟨v, by simp [resolve, invoke, builtin, h1], h2⟩
      | _ => simp [compP] at hk
    | _ => simp [compP] at hk
  | _ => simp [compP] at hk
end
end
end Go.Proofs.YtdcnbeiadgedpaaAK
