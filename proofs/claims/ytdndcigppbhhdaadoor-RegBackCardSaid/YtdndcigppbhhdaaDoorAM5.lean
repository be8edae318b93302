/-
  The interpreter over abstract values: allocations, loads, stores, appends as operations. (text 5)
-/
import Derived.Test.YtdndcigppbhhdaaDoorAM4
import Derived.Laws.MakeOwn
namespace Go.Proofs.YtdndcigppbhhdaaDoorAM
open Go.RowKit
set_option linter.unusedSimpArgs false
set_option linter.unusedVariables false
noncomputable section

/-! ### 11. Allocations -/
inductive KK where
  | box (e : TypeId) (x : AO)
  | new (e : TypeId) (zero : List AV)
  | row (e : TypeId) (len esz : Nat) (base : List AV) (parts : List (Nat × Nat × AO))
  | mk (e : TypeId) (esz bytes : Nat) (z : List AV) (len cap : AO)
  deriving Inhabited
def zbase (z : List AV) : Nat → List AV
  | 0 => []
  | n + 1 => z ++ zbase z n
/-- The block, and the value that leads to it: none: a pointer; (len, cap, esz): a slice. -/
def KK.ev (tm : T AV) : KK → Option (Blk × Option (Nat × Nat × Nat))
  | .box e x => match x.ev tm with
    | some v => some (⟨v.cells, e⟩, none)
    | none => none
  | .new e zero => some (⟨zero, e⟩, none)
  | .row e len esz base parts => match fillA tm base parts with
    | some cs => some (⟨cs, e⟩, some (len, len, esz))
    | none => none
  | .mk e esz bytes z len cap => match len.ev tm, cap.ev tm with
    | some (.int _ (.ofNat l)), some (.int _ (.ofNat c)) => match Nat.ble l c && Nat.ble c 1000000 && Nat.ble (bytes * c) 1000000000 with
      | true => some (⟨zbase z c, e⟩, some (l, c, esz))
      | false => none
    | _, _ => none
def lead (id : Nat) : Option (Nat × Nat × Nat) → AV
  | none => .ptr id 0
  | some (len, cap, esz) => .sl id 0 len cap esz

theorem zbase_length (z : List AV) : ∀ n, (zbase z n).length = n * z.length
  | 0 => by simp [zbase]
  | n + 1 => by simp [zbase, zbase_length z n, Nat.add_mul, Nat.add_comm]
theorem zbase_sound {ρ : Ren} {z : List AV} {cs : List Value} (hz : VRL ρ z cs) : ∀ n, VRL ρ (zbase z n) (List.replicate n cs).flatten
  | 0 => by simp [zbase]; exact .nil
  | n + 1 => by
    simp only [zbase, List.replicate_succ, List.flatten_cons]
    exact hz.append (zbase_sound hz n)
theorem zrange (cs : Array Value) (hp : 0 < cs.size) (n : Nat) : ((Array.range (n * cs.size)).map (cs[· % cs.size]!)).toList = (List.replicate n cs.toList).flatten := by
  induction n with
  | zero => simp
  | succ n ih =>
    rw [List.replicate_succ', List.flatten_append, ← ih]
    have e : (n + 1) * cs.size = n * cs.size + cs.size := by rw [Nat.add_mul, Nat.one_mul]
    apply List.ext_getElem
    · simp [e]
    · intro i h1 h2
      simp only [Array.toList_map, Array.toList_range, List.getElem_map, List.getElem_range, List.flatten_cons, List.flatten_nil, List.append_nil]
      rw [List.getElem_append]
      split
      · simp
      · rename_i h
        simp at h h1
        rw [e] at h1
        have hi : i % cs.size = i - n * cs.size := by
          have : i = (i - n * cs.size) + n * cs.size := by omega
          conv => lhs; rw [this]
          rw [Nat.add_mul_mod_self_right, Nat.mod_eq_of_lt (by omega)]
        simp only [hi, List.length_map, List.length_range]
        rw [getElem!_pos cs _ (by omega)]
        simp

def compK (P : Program) : Op → Option KK
  | .box e x => (compO x).map (.box e)
  | .alloc e => match tyOf P e with
    | some ty => ty.zero.map (.new e)
    | none => none
  | .buildSlice t len parts => match P.underlying t with
    | some (.slice e) => match tyOf P e with
      | some te => match te.zero with
        | some z => match Nat.beq z.length te.size && Nat.ble (len * te.size) 16777216 && Nat.blt 0 te.size with
          | true => (compParts (fun i => some (i * te.size, te.size)) parts.toList).map (.row e len te.size (zbase z len))
          | false => none
        | none => none
      | none => none
    | _ => none
  | .makeSlice t len cap => match P.underlying t, compO len, compO cap with
    | some (.slice e), some al, some ac => match tyOf P e with
      | some te => match te.zero with
        | some z => match Nat.beq z.length te.size && Nat.blt 0 te.size with
          | true => some (.mk e te.size te.bytes z al ac)
          | false => none
        | none => none
      | none => none
    | _, _, _ => none
  | _ => none

theorem alloc_sound [Glo] {P : Program} {o : Op} {k : KK} (hk : compK P o = some k) {ρ : Ren} {tm : T AV} {a : Act} (A : AR ρ tm a.tmps) (w : World) {blk : Blk} {ld : Option (Nat × Nat × Nat)} (hr : k.ev tm = some (blk, ld)) (op : Oper) (ho : op.op = o) :
    ∃ (cs : Array Value) (v : Value), (execOp a.eval op).run P w = .ok (.value v) (w.alloc (.cells cs blk.elem)) ∧ VRL ρ blk.cells cs.toList ∧ ∀ (ρ' : Ren) (id : Nat), ρ' id = some (w.heap.size, cs.size) → VR ρ' (lead id ld) v := by
  unfold execOp
  rw [ho]
  cases o with
  | box e x =>
    simp only [compK] at hk
    obtain ⟨ax, hx, rfl⟩ := Option.map_eq_some_iff.1 hk
    simp only [KK.ev] at hr
    split at hr
    · rename_i v hv
      injection hr with hr
      injection hr with hr1 hr2
      subst hr1
      subst hr2
      exact ⟨(a.eval x).cells, .pointer (some ⟨w.heap.size, 0, none⟩), by simp [Instr.box, newVar, newRow], (ev_sound A hx hv).cells, fun ρ' id h => .ptr _ _ _ _ h⟩
    · cases hr
  | alloc e =>
    simp only [compK] at hk
    split at hk
    · rename_i ty hty
      obtain ⟨z, hz, rfl⟩ := Option.map_eq_some_iff.1 hk
      simp only [KK.ev] at hr
      injection hr with hr
      injection hr with hr1 hr2
      subst hr1
      subst hr2
      obtain ⟨zv, hz1, hz2⟩ := (tyOf_ok hty).run_zero w hz
      exact ⟨zv.cells, .pointer (some ⟨w.heap.size, 0, none⟩), by simp [Instr.alloc, hz1, newVar, newRow], hz2 ρ, fun ρ' id h => .ptr _ _ _ _ h⟩
    · cases hk
  | buildSlice t len parts =>
    simp only [compK] at hk
    split at hk
    · rename_i e hu
      split at hk
      · rename_i te hte
        split at hk
        · rename_i z hz
          split at hk
          · rename_i hc
            simp only [Bool.and_eq_true, Nat.ble_eq] at hc
            obtain ⟨⟨hc1, hc2⟩, hc3⟩ := hc
            have hc1 := Nat.eq_of_beq_eq_true hc1
            have hc3 := of_eq_true_ hc3
            obtain ⟨aps, hp, rfl⟩ := Option.map_eq_some_iff.1 hk
            simp only [KK.ev] at hr
            split at hr
            · rename_i out hout
              injection hr with hr
              injection hr with hr1 hr2
              subst hr1
              subst hr2
              obtain ⟨zv, hz1, hz2⟩ := (tyOf_ok hte).run_zero w hz
              have hzl := (hz2 ρ).length
              simp only [Array.length_toList] at hzl
              have hs := (tyOf_ok hte).run_size w
              have eP : ∀ l : Array (Nat × Operand), (l.map fun (i, x) => (i, a.eval x)).toList = l.toList.map fun (i, x) => (i, a.eval x) := fun l => by simp
              by_cases h0 : len * te.size = 0
              · have hl0 : len = 0 := by
                  rcases Nat.mul_eq_zero.1 h0 with h | h
                  · exact h
                  · omega
                subst hl0
                have hnil : ((Array.range (0 * te.size)).map ((#[] : Array Value)[· % (#[] : Array Value).size]!)) = #[] := by
                  apply Array.eq_empty_of_size_eq_zero
                  simp
                obtain ⟨cells', e1, e2, e3⟩ := fill_sound A (fun i => some (i * te.size, te.size)) hp (base := zbase z 0) (cells := ((Array.range (0 * te.size)).map ((#[] : Array Value)[· % (#[] : Array Value).size]!)))
                  (by rw [hnil]; simp [zbase]; exact .nil) hout
                rw [hnil] at e3
                refine ⟨cells', .slice (some ⟨w.heap.size, 0, none⟩) 0 0, ?_, e2, fun ρ' id h => .sl _ _ _ _ _ _ _ 0 h (Nat.le_refl _) (by simp [e3]) (by simp) (fun _ => rfl) (Nat.le_refl _)⟩
                have hsm : ¬ 0 * te.size > 2 ^ 24 := by omega
                simp only [Instr.buildSlice, Sem.run_bind, run_underlying hu, hs, Result.andThen_ok, Sem.run_ite]
                rw [if_neg hsm]
                simp only [Sem.run_pure, Result.andThen_ok]
                rw [if_pos h0, eP, e1]
                simp [newRow]
              · obtain ⟨cells', e1, e2, e3⟩ := fill_sound A (fun i => some (i * te.size, te.size)) hp (base := zbase z len) (cells := (Array.range (len * zv.cells.size)).map (zv.cells[· % zv.cells.size]!))
                  (by rw [zrange zv.cells (by omega) len]; exact zbase_sound (hz2 ρ) len) hout
                have e3' : cells'.size = len * te.size := by rw [e3]; simp; rw [← hzl, hc1]
                refine ⟨cells', .slice (some ⟨w.heap.size, 0, none⟩) len len, ?_, e2, fun ρ' id h => .sl _ _ _ _ _ _ _ len h (Nat.le_refl _) (by omega) ?_ (fun _ => rfl) (Nat.le_refl _)⟩
                · have hse : te.size = zv.cells.size := by omega
                  rw [hse] at e1 hs h0 hc2
                  have hsm : ¬ len * zv.cells.size > 2 ^ 24 := by omega
                  simp only [Instr.buildSlice, Sem.run_bind, run_underlying hu, hs, Result.andThen_ok, Sem.run_ite]
                  rw [if_neg hsm]
                  simp only [Sem.run_pure, Result.andThen_ok]
                  rw [if_neg h0]
                  simp only [Sem.run_bind, hz1, Result.andThen_ok, Sem.run_pure]
                  rw [eP, e1]
                  simp [newRow]
                · have : len ≤ len * te.size := Nat.le_mul_of_pos_right _ hc3
                  simp only [maxLen]
                  omega
            · cases hr
          · cases hk
        · cases hk
      · cases hk
    · cases hk
  | makeSlice t len cap =>
    simp only [compK] at hk
    split at hk
    · rename_i e al ac hu hl hcp
      split at hk
      · rename_i te hte
        split at hk
        · rename_i z hz
          split at hk
          · rename_i hc
            simp only [Bool.and_eq_true] at hc
            obtain ⟨hc1, hc3⟩ := hc
            have hc1 := Nat.eq_of_beq_eq_true hc1
            have hc3 := of_eq_true_ hc3
            injection hk with hk
            subst hk
            simp only [KK.ev] at hr
            split at hr
            · rename_i k1 l k2 c h1 h2
              split at hr
              · rename_i hb
                injection hr with hr
                injection hr with hr1 hr2
                subst hr1
                subst hr2
                simp only [Bool.and_eq_true, Nat.ble_eq] at hb
                obtain ⟨⟨hb1, hb2⟩, hb3⟩ := hb
                obtain ⟨i, hi, hi1, hi2, hi3⟩ := (tyOf_ok hte).info
                obtain ⟨zv, hz1, hz2⟩ := hi3 z hz
                have hzl := (hz2 ρ).length
                simp only [Array.length_toList] at hzl
                have e1 := ev_sound A hl h1
                have e2 := ev_sound A hcp h2
                simp only
                generalize a.eval len = vl at e1 ⊢
                generalize a.eval cap = vc at e2 ⊢
                cases e1
                cases e2
                have hby : (i.bytes : Int) * (Int.ofNat c) ≤ 281474976710656 := by
                  rw [hi2]
                  have : ((te.bytes * c : Nat) : Int) ≤ 1000000000 := by omega
                  rw [Int.natCast_mul] at this
                  show (te.bytes : Int) * (c : Int) ≤ _
                  omega
                have hrun := run_make (P := P) w t e i zv hu hi hz1 k1 k2 (Int.ofNat l) (Int.ofNat c) (by simp) (by simp; omega) hby (by simp; omega)
                have hsz : i.size = zv.cells.size := by omega
                rw [hsz] at hrun
                refine ⟨madeCells zv.cells (c * zv.cells.size), .slice (some ⟨w.heap.size, 0, none⟩) l c, ?_, ?_, fun ρ' id h => .sl _ _ _ _ _ _ _ c h (Nat.le_refl _) ?_ ?_ (fun _ => rfl) hb1⟩
                · simp only [Sem.run_bind, hrun, Result.andThen_ok]
                  rfl
                · unfold madeCells
                  rw [zrange zv.cells (by omega) c]
                  exact zbase_sound (hz2 ρ) c
                · rw [size_madeCells, Nat.zero_add]
                  congr 1
                  omega
                · simp only [maxLen]
                  omega
              · cases hr
            · cases hr
          · cases hk
        · cases hk
      · cases hk
    · cases hk
  | _ => simp [compK] at hk

/-! ### 12. Loads -/
structure LK where
  agg : Bool
  sz : Nat
  x : AO
  deriving Inhabited
def loadAt (h : HF) (agg : Bool) (sz id off : Nat) : Option AV :=
  match h id with
  | none => none
  | some blk => match agg with
    | true => match Nat.ble (off + sz) blk.cells.length with
      | true => some (.agg (takeF sz (dropF off blk.cells)))
      | false => none
    | false => getF off blk.cells
theorem loadAt_def (h : HF) (agg : Bool) (sz id off : Nat) : loadAt h agg sz id off = match h id with
  | none => none
  | some blk => match agg with
    | true => match Nat.ble (off + sz) blk.cells.length with
      | true => some (.agg ((blk.cells.drop off).take sz))
      | false => none
    | false => blk.cells[off]? := by
  unfold loadAt
  simp only [dropF_eq, takeF_eq, getF_eq]
def LK.ev (tm : T AV) (h : HF) (k : LK) : Option AV :=
  match k.x.ev tm with
  | some (.ptr id off) => loadAt h k.agg k.sz id off
  | _ => none
def compL (P : Program) : Op → Option LK
  | .load t x => match tyOf P t, compO x with
    | some ty, some ax => some ⟨ty.agg, ty.size, ax⟩
    | _, _ => none
  | _ => none

/-- What a block's cells read, in the world. -/
theorem HR.cell [Glo] {ρ : Ren} {h : HF} {w : World} (H : HR ρ h w) {id : Nat} {blk : Blk} (hb : h id = some blk) {b t : Nat} (hρ : ρ id = some (b, t)) :
    ∃ vs : List Value, vs.length = blk.cells.length ∧ VRL ρ blk.cells vs ∧ ∀ j v, vs[j]? = some v → w.cell? ⟨b, j, none⟩ = some v := by
  obtain ⟨b', c, h1, h2, h3, _, h5⟩ := H.at_ id blk hb
  rw [hρ] at h1
  injection h1 with h1
  injection h1 with h1 _
  subst h1
  refine ⟨c.toList.take blk.cells.length, by simp; omega, h5, fun j v hj => ?_⟩
  simp only [List.getElem?_take] at hj
  split at hj
  · simp only [World.cell?, h2, Option.isSome_none, Bool.false_eq_true, if_false]
    simpa using hj
  · cases hj

theorem run_cells {P : Program} {w : World} (b o : Nat) (vs : List Value) (h : ∀ j v, vs[j]? = some v → w.cell? ⟨b, o + j, none⟩ = some v) :
    (loadCells ⟨b, o, none⟩ vs.length).run P w = .ok vs.toArray w := by
  have := run_loadCells_list (P := P) (w := w) ⟨b, o, none⟩ vs (fun j v hj => by rw [add_plain]; exact h j v hj)
  exact this

theorem load_sound [Glo] {P : Program} {o : Op} {k : LK} (hk : compL P o = some k) {ρ : Ren} {tm : T AV} {a : Act} (A : AR ρ tm a.tmps) {h : HF} {w : World} (H : HR ρ h w) {r : AV} (hr : k.ev tm h = some r) (op : Oper) (ho : op.op = o) :
    ∃ v, (execOp a.eval op).run P w = .ok (.value v) w ∧ VR ρ r v := by
  unfold execOp
  rw [ho]
  cases o with
  | load t x =>
    simp only [compL] at hk
    split at hk
    · rename_i ty ax hty hx
      injection hk with hk
      subst hk
      simp only [LK.ev] at hr
      split at hr
      · rename_i id off hv
        have e1 := ev_sound A hx hv
        simp only
        generalize a.eval x = vx at e1 ⊢
        cases e1 with
        | ptr _ _ b t' hρ =>
          have ok := tyOf_ok hty
          rw [loadAt_def] at hr
          split at hr
          · cases hr
          · rename_i blk hb
            obtain ⟨vs, hl, hvr, hcell⟩ := H.cell hb hρ
            cases ha : ty.agg with
            | true =>
              simp only [ha] at hr
              split at hr
              · rename_i hle
                injection hr with hr
                subst hr
                have hle := Nat.ble_eq.mp hle
                have hlen : ((vs.drop off).take ty.size).length = ty.size := by simp; omega
                have hrun := run_cells (P := P) (w := w) b off ((vs.drop off).take ty.size) (fun j v hj => by
                  rw [List.getElem?_take] at hj
                  split at hj
                  · rw [List.getElem?_drop] at hj
                    exact hcell _ _ hj
                  · cases hj)
                rw [hlen] at hrun
                refine ⟨.agg ((vs.drop off).take ty.size).toArray, ?_, .agg _ _ (by simpa using (hvr.drop off).take ty.size)⟩
                simp [Instr.loadAt, Instr.sureAddr, loadVar, ok.run_agg, ok.run_size, ha, hrun]
              · cases hr
            | false =>
              simp only [ha] at hr
              obtain ⟨v, hv1, hv2⟩ := hvr.get off r hr
              exact ⟨v, by simp [Instr.loadAt, Instr.sureAddr, loadVar, ok.run_agg, ha, hcell off v hv1], hv2⟩
      · cases hr
    · cases hk
  | _ => simp [compL] at hk

/-! ### 13. Stores -/
structure SK where
  sz : Nat
  x : AO
  y : AO
  deriving Inhabited
def SK.ev (tm : T AV) (h : T Blk) (k : SK) : Option (T Blk) :=
  match k.x.ev tm, k.y.ev tm with
  | some (.ptr id off), some v => match h.get id with
    | none => none
    | some blk => match Nat.beq v.cells.length k.sz && Nat.ble (off + k.sz) blk.cells.length && v.cells.all AV.one with
      | true => some (h.put id ⟨takeF off blk.cells ++ (v.cells ++ dropF (off + k.sz) blk.cells), blk.elem⟩)
      | false => none
  | _, _ => none
def compS (P : Program) : Op → Option SK
  | .store t x y => match tyOf P t, compO x, compO y with
    | some ty, some ax, some ay => some ⟨ty.size, ax, ay⟩
    | _, _, _ => none
  | _ => none

theorem HF.get_put (h : T Blk) (id : Nat) (b : Blk) : (h.put id b).get = (HF.up h.get id b : HF) := by
  funext j
  rw [T.get_put]
  rfl
theorem HF.get_del (h : T Blk) (id : Nat) : (h.del id).get = (HF.rm h.get id : HF) := by
  funext j
  rw [T.get_del]
  rfl

theorem store_sound [Glo] {P : Program} {o : Op} {k : SK} (hk : compS P o = some k) {ρ : Ren} {tm : T AV} {a : Act} (A : AR ρ tm a.tmps) {h : T Blk} {w : World} (H : HR ρ h.get w) {h' : T Blk} (hr : k.ev tm h = some h') (op : Oper) (ho : op.op = o) :
    ∃ w', (execOp a.eval op).run P w = .ok .skip w' ∧ HR ρ h'.get w' ∧ FR ρ h.get w ρ h'.get w' := by
  unfold execOp
  rw [ho]
  cases o with
  | store t x y =>
    simp only [compS] at hk
    split at hk
    · rename_i ty ax ay hty hx hy
      injection hk with hk
      subst hk
      simp only [SK.ev, dropF_eq, takeF_eq] at hr
      split at hr
      · rename_i id off v hv1 hv2
        split at hr
        · cases hr
        · rename_i blk hb
          split at hr
          · rename_i hc
            injection hr with hr
            subst hr
            simp only [Bool.and_eq_true, Nat.ble_eq] at hc
            obtain ⟨⟨hc1, hc2⟩, hc3⟩ := hc
            have hc1 := Nat.eq_of_beq_eq_true hc1
            have e1 := ev_sound A hx hv1
            have e2 := ev_sound A hy hv2
            simp only
            generalize a.eval x = vx at e1 ⊢
            generalize a.eval y = vy at e2 ⊢
            cases e1 with
            | ptr _ _ b t' hρ =>
              have ok := tyOf_ok hty
              obtain ⟨b', c, h1, h2, h3, h4, h5⟩ := H.at_ id blk hb
              rw [hρ] at h1
              injection h1 with h1
              injection h1 with h1 h1'
              subst h1
              subst h1'
              have hcl := e2.cells
              have hll := hcl.length
              simp only [Array.length_toList] at hll
              have hs := ok.run_size w
              have hst := run_storeCells_at (P := P) b off blk.elem vy.cells.toList 0 c w h2 (by simp; omega) (hcl.ones hc3)
              have hsz : vy.cells.size = ty.size := by omega
              refine ⟨w.setRow b (c.toList.take (off + 0) ++ vy.cells.toList ++ c.toList.drop (off + 0 + vy.cells.toList.length)).toArray, ?_, ?_, ?_⟩
              · simp only [Instr.storeAt, Instr.sureAddr, storeVar, Sem.run_bind, Sem.run_pure, Result.andThen_ok, hs, hsz]
                simp [hst]
              · rw [HF.get_put]
                refine H.write hb _ (by simp; omega) b c _ hρ h2 (by simp; omega) ?_
                have e5 : blk.cells.length = off + ty.size + (blk.cells.length - (off + ty.size)) := by omega
                have key : ((c.toList.take (off + 0) ++ vy.cells.toList ++ c.toList.drop (off + 0 + vy.cells.toList.length)).toArray.toList.take (blk.cells.take off ++ (v.cells ++ blk.cells.drop (off + ty.size))).length) =
                    (c.toList.take blk.cells.length).take off ++ (vy.cells.toList ++ (c.toList.take blk.cells.length).drop (off + ty.size)) := by
                  simp only [Nat.add_zero, Array.length_toList, List.length_append, List.length_take, List.length_drop, hsz]
                  rw [show min off blk.cells.length + (v.cells.length + (blk.cells.length - (off + ty.size))) = blk.cells.length by omega]
                  rw [List.append_assoc, List.take_append, List.take_append]
                  simp only [List.length_take, Array.length_toList, List.take_take]
                  rw [show min off c.size = off by omega, List.take_of_length_le (l := vy.cells.toList) (by simp; omega)]
                  congr 1
                  · congr 1
                    omega
                  · rw [List.drop_take]
                    simp only [Array.length_toList, hsz]
                    congr 2
                    omega
                rw [key]
                exact (h5.take off).append (hcl.append (h5.drop (off + ty.size)))
              · rw [HF.get_put]
                exact H.write_FR hb _ b _ _ hρ
          · cases hr
      · cases hr
    · cases hk
  | _ => simp [compS] at hk
end
end Go.Proofs.YtdndcigppbhhdaaDoorAM
