/-
  The interpreter over abstract values: calls whose outcome is known (summaries). (text 14)
-/
import Derived.Test.YtdndcigppbhhdaaDoorAM13
namespace Go.Proofs.YtdndcigppbhhdaaDoorAM
open Go.RowKit
set_option linter.unusedSimpArgs false
set_option linter.unusedVariables false
noncomputable section

/-! ### 24. Values moved to other numbers -/
def AV.flat : AV → Bool
  | .agg _ | .tup _ | .fn _ _ _ => false
  | _ => true
def AV.sh1 (n : Nat) : AV → AV
  | .ptr id off => .ptr (n + id) off
  | .sl id off m c e => .sl (n + id) off m c e
  | v => v
def shs (n : Nat) (l : List AV) : List AV := List.rec (motive := fun _ => List AV) [] (fun a _ r => a.sh1 n :: r) l
def AV.sh (n : Nat) : AV → AV
  | .tup vs => .tup (shs n vs)
  | v => v.sh1 n
def AV.flat2 : AV → Bool
  | .tup vs => vs.all AV.flat
  | v => v.flat
def addS (n : Nat) (l : List (Nat × Blk)) (h : T Blk) : T Blk := List.rec (motive := fun _ => T Blk) h (fun p _ r => r.put (n + p.1) ⟨shs n p.2.cells, p.2.elem⟩) l
theorem addS_nil (n : Nat) (h : T Blk) : addS n [] h = h := rfl
theorem addS_cons (n : Nat) (p : Nat × Blk) (l : List (Nat × Blk)) (h : T Blk) : addS n (p :: l) h = (addS n l h).put (n + p.1) ⟨shs n p.2.cells, p.2.elem⟩ := rfl
def look : List (Nat × Blk) → Nat → Option Blk
  | [], _ => none
  | (i, b) :: l, j => if j = i then some b else look l j
theorem addS_get [Glo] {n : Nat} {h : T Blk} : ∀ {l : List (Nat × Blk)} {id : Nat}, (addS n l h).get id = if id < n then (addS n l h).get id else match look l (id - n) with
    | some b => some ⟨shs n b.cells, b.elem⟩
    | none => h.get id
  | [], id => by
    rw [addS_nil]
    split
    · rfl
    · rfl
  | (i, b) :: l, id => by
    by_cases hl : id < n
    · rw [if_pos hl]
    · rw [if_neg hl]
      rw [addS_cons, T.get_put]
      simp only [look]
      by_cases e : id = n + i
      · rw [if_pos e, if_pos (by omega)]
      · rw [if_neg e, if_neg (by omega)]
        have := addS_get (n := n) (h := h) (l := l) (id := id)
        rw [if_neg hl] at this
        exact this
theorem addS_low [Glo] {n : Nat} {h : T Blk} : ∀ {l : List (Nat × Blk)} {id : Nat}, id < n → (addS n l h).get id = h.get id
  | [], id, _ => rfl
  | (i, b) :: l, id, hl => by
    rw [addS_cons, T.get_put, if_neg (by omega)]
    exact addS_low hl

theorem VR.sh1 {ρ ρ' : Ren} {n : Nat} (hn : n % 2 = 0) (h : ∀ id p, ρ id = some p → ρ' (n + id) = some p) {a : AV} {v : Value} (hv : VR ρ a v) (hf : a.flat = true) : VR ρ' (a.sh1 n) v := by
  cases hv with
  | ptr id off b t e => exact .ptr _ _ _ _ (h _ _ e)
  | sl id off m c e b t c' hb hc ht hm he hnn => exact .sl _ _ _ _ _ b t c' (h _ _ hb) hc ht hm (fun e' => he (by omega)) hnn
  | num q x hq => exact .num q x hq
  | int k m => exact .int k m
  | bool b => exact .bool b
  | str s => exact .str s
  | nilp => exact .nilp
  | nils => exact .nils
  | nilfn => exact .nilfn
  | agg as bs hs => simp [AV.flat] at hf
  | tup as bs hs => simp [AV.flat] at hf
  | fn f fs cs fs' cs' h1 h2 => simp [AV.flat] at hf
theorem VRL.shs [Glo] {ρ ρ' : Ren} {n : Nat} (hn : n % 2 = 0) (h : ∀ id p, ρ id = some p → ρ' (n + id) = some p) : ∀ {as : List AV} {vs : List Value}, VRL ρ as vs → as.all AV.flat = true → VRL ρ' (shs n as) vs
  | _, _, .nil, _ => .nil
  | _, _, .cons a b as bs e es, hf => by
    simp only [List.all_cons, Bool.and_eq_true] at hf
    exact .cons _ _ _ _ (e.sh1 hn h hf.1) (VRL.shs hn h es hf.2)
theorem VR.sh [Glo] {ρ ρ' : Ren} {n : Nat} (hn : n % 2 = 0) (h : ∀ id p, ρ id = some p → ρ' (n + id) = some p) {a : AV} {v : Value} (hv : VR ρ a v) (hf : a.flat2 = true) : VR ρ' (a.sh n) v := by
  cases hv with
  | tup as bs hs => exact .tup _ _ (hs.shs hn h hf)
  | agg as bs hs => simp [AV.flat2, AV.flat] at hf
  | fn f fs cs fs' cs' h1 h2 => simp [AV.flat2, AV.flat] at hf
  | num q x hq => exact VR.sh1 hn h (.num q x hq) rfl
  | int k m => exact VR.sh1 hn h (.int k m) rfl
  | bool b => exact VR.sh1 hn h (.bool b) rfl
  | str s => exact VR.sh1 hn h (.str s) rfl
  | ptr id off b t e => exact VR.sh1 hn h (.ptr id off b t e) rfl
  | nilp => exact VR.sh1 hn h .nilp rfl
  | sl id off m c e b t c' hb hc ht hm he hnn => exact VR.sh1 hn h (.sl id off m c e b t c' hb hc ht hm he hnn) rfl
  | nils => exact VR.sh1 hn h .nils rfl
  | nilfn => exact VR.sh1 hn h .nilfn rfl
theorem shs_length (n : Nat) : ∀ l : List AV, (shs n l).length = l.length
  | [] => rfl
  | a :: l => by
    show (shs n l).length + 1 = _
    rw [shs_length n l]
    rfl

/-! ### 25. What is known of a function without parameters -/
structure Sm where
  v : AV
  l : List (Nat × Blk)
  k : Nat
def Sm.ok (s : Sm) : Bool := s.v.flat2 && s.l.all (fun p => p.2.cells.all AV.flat) && Nat.beq (s.k % 2) 0
structure SmOK [Glo] (P : Program) (f : Nat) (s : Sm) : Prop where
  flat : s.ok = true
  enter : ∀ w, Low w → (callFunc f #[]).run P w = .ok (.enter f #[]) w
  calls : ∀ w : World, Low w → Calls P f #[] w fun e w' => ∃ cv ρ', e = .returned cv ∧ VR ρ' s.v cv ∧ HR ρ' (look s.l) w' ∧ Fr ρ' s.k ∧ Below w.heap.size w w' ∧ ∀ id, (look s.l id).isSome → ∃ p, ρ' id = some p ∧ w.heap.size ≤ p.1
/-- Known calls first. -/
def known (sm : Nat → Option Sm) (call : CallF) : CallF := fun f args h nx =>
  match args with
  | [] => match sm f with
    | some s => some (s.v.sh nx, addS nx s.l h, nx + s.k)
    | none => call f [] h nx
  | args => call f args h nx
theorem look_flat : ∀ {l : List (Nat × Blk)} {i : Nat} {b : Blk}, l.all (fun p => p.2.cells.all AV.flat) = true → look l i = some b → b.cells.all AV.flat = true
  | [], _, _, _, h => by simp [look] at h
  | (j, c) :: l, i, b, hf, h => by
    simp only [List.all_cons, Bool.and_eq_true] at hf
    simp only [look] at h
    split at h
    · injection h with h
      subst h
      exact hf.1
    · exact look_flat hf.2 h

theorem known_ok [Glo] {P : Program} {sm : Nat → Option Sm} {call : CallF} (C : CallOK P call) (S : ∀ f s, sm f = some s → SmOK P f s) : CallOK P (known sm call) := by
  refine ⟨?_, C.2⟩
  intro f args h nx v h' nx' hr ρ w cargs H F he hA
  unfold known at hr
  split at hr
  · split at hr
    · rename_i s hs
      injection hr with hr
      injection hr with h1 h2
      injection h2 with h2 h3
      subst h1 h2 h3
      have hc : cargs = #[] := by
        have := hA.length
        simp only [List.length_nil, Array.length_toList] at this
        exact Array.eq_empty_of_size_eq_zero this.symm
      subst hc
      obtain ⟨flat, ent, cl⟩ := S f s hs
      simp only [Sm.ok, Bool.and_eq_true] at flat
      obtain ⟨⟨f1, f2⟩, f3⟩ := flat
      have f3 := Nat.eq_of_beq_eq_true f3
      refine ⟨ent w H.low, (cl w H.low).mono fun e w' hh => ?_⟩
      obtain ⟨cv, ρ', rfl, h1, h2, h3, h4, h5⟩ := hh
      have hlive : ∀ id, (h.get id).isSome → id < nx := fun id hid => by
        rcases Nat.lt_or_ge id nx with hl | hg
        · exact hl
        · obtain ⟨p, hp⟩ := H.known hid
          rw [F id hg] at hp
          cases hp
      have hx : ∀ id p, ρ' id = some p → (fun id => if id < nx then ρ id else ρ' (id - nx) : Ren) (nx + id) = some p := fun id p e => by
        simp only
        rw [if_neg (by omega), show nx + id - nx = id by omega]
        exact e
      have hx0 : Ext ρ (fun id => if id < nx then ρ id else ρ' (id - nx)) := fun id p e => by
        simp only
        rw [if_pos]
        · exact e
        · rcases Nat.lt_or_ge id nx with hl | hg
          · exact hl
          · rw [F id hg] at e
            cases e
      have hget : ∀ id, nx ≤ id → (addS nx s.l h).get id = (look s.l (id - nx)).map fun b => ⟨shs nx b.cells, b.elem⟩ := fun id hid => by
        rw [addS_get, if_neg (by omega)]
        cases look s.l (id - nx) with
        | some b => rfl
        | none =>
          cases hh : h.get id with
          | none => rfl
          | some b => have := hlive id (by rw [hh]; rfl); omega
      have hlow : ∀ {id : Nat} {p : Nat × Nat}, (h.get id).isSome → ρ id = some p → p.1 < w.heap.size := fun hid hp => H.lt hid hp
      have hhigh : ∀ {id : Nat} {p : Nat × Nat}, (look s.l id).isSome → ρ' id = some p → w.heap.size ≤ p.1 := fun hid hp => by
        obtain ⟨q, e1, e2⟩ := h5 _ hid
        rw [hp] at e1
        injection e1 with e1
        subst e1
        exact e2
      have hcase : ∀ id, ((addS nx s.l h).get id).isSome → (id < nx ∧ (h.get id).isSome) ∨ (nx ≤ id ∧ (look s.l (id - nx)).isSome) := fun id hid => by
        rcases Nat.lt_or_ge id nx with hl | hg
        · rw [addS_low hl] at hid
          exact .inl ⟨hl, hid⟩
        · rw [hget id hg] at hid
          exact .inr ⟨hg, by simpa using hid⟩
      refine ⟨cv, fun id => if id < nx then ρ id else ρ' (id - nx), rfl, h1.sh he hx f1, ?_, ?_, by omega, ?_, ?_, by omega⟩
      · refine ⟨fun id blk hid => ?_, fun i j p q hi hj hp hq hpq => ?_, fun i p hi hp => ?_, h2.low⟩
        · rcases Nat.lt_or_ge id nx with hl | hg
          · rw [addS_low hl] at hid
            obtain ⟨b, c, e1, e2, e3, e4, e5⟩ := H.at_ id blk hid
            refine ⟨b, c, hx0 _ _ e1, ?_, e3, e4, e5.ext hx0⟩
            rw [h4.block b (Array.getElem?_eq_some_iff.1 e2).1]
            exact e2
          · rw [hget id hg, Option.map_eq_some_iff] at hid
            obtain ⟨b0, hb0, rfl⟩ := hid
            obtain ⟨b, c, e1, e2, e3, e4, e5⟩ := h2.at_ _ b0 hb0
            refine ⟨b, c, ?_, e2, ?_, fun e => ?_, ?_⟩
            · rw [if_neg (by omega)]
              exact e1
            · simp only
              rw [shs_length]
              exact e3
            · simp only
              rw [shs_length]
              exact e4 (by omega)
            · simp only
              rw [shs_length]
              exact e5.shs he hx (look_flat f2 hb0)
        · rcases hcase i hi with ⟨c1, c2⟩ | ⟨c1, c2⟩
          · rw [if_pos c1] at hp
            rcases hcase j hj with ⟨d1, d2⟩ | ⟨d1, d2⟩
            · rw [if_pos d1] at hq
              exact H.inj i j p q c2 d2 hp hq hpq
            · rw [if_neg (by omega)] at hq
              have := hlow c2 hp
              have := hhigh d2 hq
              omega
          · rw [if_neg (by omega)] at hp
            rcases hcase j hj with ⟨d1, d2⟩ | ⟨d1, d2⟩
            · rw [if_pos d1] at hq
              have := hlow d2 hq
              have := hhigh c2 hp
              omega
            · rw [if_neg (by omega)] at hq
              have := h2.inj _ _ p q c2 d2 hp hq hpq
              omega
        · rcases hcase i hi with ⟨c1, c2⟩ | ⟨c1, c2⟩
          · rw [if_pos c1] at hp
            exact H.lo i p c2 hp
          · rw [if_neg (by omega)] at hp
            have := hhigh c2 hp
            exact Nat.le_trans H.low.1 this
      · intro id hid
        simp only
        rw [if_neg (by omega)]
        exact h3 _ (by omega)
      · intro id hid
        simp only
        rw [if_pos hid]
      · refine ⟨h4.os, h4.tape, h4.output, h4.size, fun b hb _ => h4.block b hb, fun id hid => ?_⟩
        rcases hcase id hid with ⟨c1, c2⟩ | ⟨c1, c2⟩
        · rw [if_pos c1]
          obtain ⟨p, hp⟩ := H.known c2
          exact ⟨p, hp, .inl ⟨id, p, c2, hp, rfl⟩⟩
        · rw [if_neg (by omega)]
          obtain ⟨p, hp, hge⟩ := h5 _ c2
          exact ⟨p, hp, .inr hge⟩
    · exact C.1 f [] h nx v h' nx' hr ρ w cargs H F he hA
  · exact C.1 f args h nx v h' nx' hr ρ w cargs H F he hA

/-! ### 26. Calls over what is known -/
def callS (sm : Nat → Option Sm) (env : Nat → Option AFn) (fl : Nat) (n : Nat) : CallF :=
  Nat.rec (motive := fun _ => CallF) (fun _ _ _ _ => none) (fun _ ih => known sm (fun f args h nx =>
    match env f with
    | none => none
    | some fn => match Nat.ble args.length fn.nt with
      | false => none
      | true => match exec ih fl fn.body ⟨argsT args 0 .e, h, nx⟩ with
        | some (.nor, s) => match resA s fn.res with
          | some v => some (v, s.hp, s.nx)
          | none => none
        | some (.ret, s) => match resA s fn.res with
          | some v => some (v, s.hp, s.nx)
          | none => none
        | _ => none)) n
theorem callS_ok [Glo] {P : Program} {sm : Nat → Option Sm} (S : ∀ f s, sm f = some s → SmOK P f s) {env : Nat → Option AFn} (E : EnvOK P env) (hm : P.follows .mixedOrders = true) (fl : Nat) (X : XOK P) : ∀ n, CallOK P (callS sm env fl n)
  | 0 => ⟨fun f args h nx v h' nx' hr => by simp [callS] at hr, X⟩
  | n + 1 => known_ok (call_step E hm fl (callS_ok S E hm fl X n)) S
/-- One's own call in place of a function's: what a summary is made of. -/
theorem closedS [Glo] {P : Program} {call : CallF} (C : CallOK P call) {f : FuncId} {v : AV} {h' : T Blk} {nx' : Nat} (hr : call f [] .e 0 = some (v, h', nx')) :
    (∀ w, Low w → (callFunc f #[]).run P w = .ok (.enter f #[]) w) ∧ ∀ w : World, Low w → Calls P f #[] w fun e w' => ∃ cv ρ', e = .returned cv ∧ VR ρ' v cv ∧ HR ρ' h'.get w' ∧ Fr ρ' nx' ∧ Below w.heap.size w w' ∧ ∀ id, (h'.get id).isSome → ∃ p, ρ' id = some p ∧ w.heap.size ≤ p.1 := by
  have h0 : ∀ id, (T.e : T Blk).get id = none := fun id => rfl
  have H0 : ∀ w, Low w → HR (fun _ => none) (T.e : T Blk).get w := fun w hL => {
    at_ := fun id blk h => by rw [h0] at h; cases h
    inj := fun id id' p p' h => by rw [h0] at h; cases h
    lo := fun id p h => by rw [h0] at h; cases h
    low := hL }
  refine ⟨fun w hL => (C.1 f [] .e 0 v h' nx' hr (fun _ => none) w #[] (H0 w hL) (fun _ _ => rfl) rfl .nil).1, fun w hL => ?_⟩
  obtain ⟨_, c⟩ := C.1 f [] .e 0 v h' nx' hr (fun _ => none) w #[] (H0 w hL) (fun _ _ => rfl) rfl .nil
  refine c.mono fun e w' hh => ?_
  obtain ⟨cv, ρ', h1, h2, h3, h4, _, h6⟩ := hh
  refine ⟨cv, ρ', h1, h2, h3, h4, h6.frm.below h0, fun id hid => ?_⟩
  obtain ⟨p, h7, h8⟩ := h6.frm.img id hid
  rcases h8 with ⟨id0, p0, h9, _⟩ | h8
  · rw [h0] at h9
    cases h9
  · exact ⟨p, h7, h8⟩

/-! ### 27. A summary, checked -/
def chkL (h : T Blk) : List (Nat × Blk) → Bool
  | [] => true
  | (i, b) :: l => (match h.get i with
    | some b' => Nat.beq b'.elem b.elem && AV.sames b'.cells b.cells
    | none => false) && chkL h l
def chkS (s : Sm) : Option (AV × T Blk × Nat) → Bool
  | some (v, h, k) => AV.same v s.v && Nat.beq k s.k && chkL h s.l && s.ok
  | none => false
theorem chkL_ok [Glo] {h : T Blk} : ∀ {l : List (Nat × Blk)}, chkL h l = true → ∀ i b, look l i = some b → h.get i = some b
  | [], _, i, b, hl => by simp [look] at hl
  | (j, c) :: l, hc, i, b, hl => by
    simp only [chkL, Bool.and_eq_true] at hc
    simp only [look] at hl
    split at hl
    · rename_i e
      subst e
      injection hl with hl
      subst hl
      have h1 := hc.1
      split at h1
      · rename_i b' hb'
        simp only [Bool.and_eq_true] at h1
        have e1 := Nat.eq_of_beq_eq_true h1.1
        have e2 := AV.sames_eq h1.2
        rw [hb']
        cases b'
        cases c
        simp only at e1 e2
        subst e1 e2
        rfl
      · cases h1
    · exact chkL_ok hc.2 i b hl
theorem sm_ok [Glo] {P : Program} {call : CallF} (C : CallOK P call) {f : FuncId} {s : Sm} (h : chkS s (call f [] .e 0) = true) : SmOK P f s := by
  unfold chkS at h
  split at h
  · rename_i v hp k hr
    simp only [Bool.and_eq_true] at h
    obtain ⟨⟨⟨h1, h2⟩, h3⟩, h4⟩ := h
    have h1 := AV.same_eq h1
    have h2 := Nat.eq_of_beq_eq_true h2
    obtain ⟨c1, c2⟩ := closedS C hr
    have hlook := chkL_ok h3
    refine ⟨h4, c1, fun w hL => (c2 w hL).mono fun e w' hh => ?_⟩
    obtain ⟨cv, ρ', e1, e2, e3, e4, e5, e6⟩ := hh
    refine ⟨cv, ρ', e1, by rw [← h1]; exact e2, e3.less hlook, by rw [← h2]; exact e4, e5, fun id hid => ?_⟩
    obtain ⟨b, hb⟩ := Option.isSome_iff_exists.1 hid
    exact e6 id (by rw [hlook id b hb]; rfl)
  · cases h
def smL : List (Nat × Sm) → Nat → Option Sm
  | [], _ => none
  | (g, a) :: l, f => match Nat.beq g f with
    | true => some a
    | false => smL l f
def AllSm [Glo] (P : Program) : List (Nat × Sm) → Prop
  | [] => True
  | (f, a) :: l => SmOK P f a ∧ AllSm P l
theorem smL_ok [Glo] {P : Program} : ∀ {l : List (Nat × Sm)}, AllSm P l → ∀ f s, smL l f = some s → SmOK P f s
  | [], _, f, s, h => by simp [smL] at h
  | (g, a) :: l, hl, f, s, h => by
    simp only [smL] at h
    split at h
    · rename_i e
      have e := Nat.eq_of_beq_eq_true e
      subst e
      injection h with h
      subst h
      exact hl.1
    · exact smL_ok hl.2 f s h
#print axioms sm_ok
#print axioms callS_ok
end
end Go.Proofs.YtdndcigppbhhdaaDoorAM
