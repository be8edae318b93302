/-
  The interpreter over abstract values: operations, regions, code: definitions; one operation, a region in the text's order. (text 7)
-/
import Derived.Test.YtdndcigppbhhdaaDoorAM6
namespace Go.Proofs.YtdndcigppbhhdaaDoorAM
open Go.RowKit
set_option linter.unusedSimpArgs false
set_option linter.unusedVariables false
noncomputable section

/-! ### 14. Operations -/
inductive OK where
  | p (k : PK)
  | k (k : KK)
  | l (k : LK)
  | s (k : SK)
  | g (k : GK)
  | c (f : AO) (args : List AO)
  | v (k : VK)
  | x (args : List AO)
  | st
  deriving Inhabited
structure AOp where
  dst : Option Nat
  gd : Option (Nat × Bool)
  k : OK
  need : List Nat
  anc : Nat
  deriving Inhabited
inductive AC where
  | skip
  | exit (id : Nat)
  | ret
  | reg (ops : List AOp)
  | dreg (ops : List AOp)
  | seq (a b : AC)
  | cond (x : AO) (a b : AC)
  | block (id : Nat) (b : AC)
  | loop (b : AC)
  | goto (l : Nat)
  | scope (b : AC) (ls : List (Nat × AC))
  | stuck
  deriving Inhabited
abbrev CallF := Nat → List AV → T Blk → Nat → Option (AV × T Blk × Nat)
structure St where
  tm : T AV
  hp : T Blk
  nx : Nat

def undefA : AV := .tup []
def putA (tm : T AV) (d : Option Nat) (v : AV) : T AV := match d with
  | some d => tm.put d v
  | none => tm
def wantA (tm : T AV) : Option (Nat × Bool) → Option Bool
  | none => some true
  | some (t, want) => match tm.get t with
    | some (.bool b) => some (b == want)
    | some (.tup []) => some false
    | _ => none
/-- What stores, appends and calls do. -/
def effA (call : CallF) (k : OK) (tm : T AV) (h : T Blk) (nx : Nat) : Option (AV × T Blk × Nat) :=
  match k with
  | .s k => match k.ev tm h with
    | some h' => some (undefA, h', nx)
    | none => none
  | .g k => match k.ev tm h nx with
    | some (v, h') => some (v, h', nx + 2)
    | none => none
  | .c f args => match f.ev tm, evs tm args with
    | some (.fn f fs cs), some as => call f (fs ++ (as ++ cs)) h nx
    | _, _ => none
  | .v k => match k.ev tm h with
    | some v => some (v, h, nx)
    | none => none
  | .x args => match evs tm args with
    | some [.int .u64 (.ofNat x), .int .u64 (.ofNat y), .int .u64 (.ofNat c)] => match Nat.ble c 1 with
      | true => some (.tup [.int .u64 (.ofNat ((x + y + c) % 18446744073709551616)), .int .u64 (.ofNat ((x + y + c) / 18446744073709551616))], h, nx)
      | false => none
    | _ => none
  | _ => none
def stepA (call : CallF) (o : AOp) (s : St) : Option St :=
  match wantA s.tm o.gd with
  | none => none
  | some false => some ⟨putA s.tm o.dst undefA, s.hp, s.nx⟩
  | some true => match o.k with
    | .p k => match k.ev s.tm with
      | some v => some ⟨putA s.tm o.dst v, s.hp, s.nx⟩
      | none => none
    | .k k => match k.ev s.tm with
      | some (blk, ld) => some ⟨putA s.tm o.dst (lead s.nx ld), s.hp.put s.nx blk, s.nx + 2⟩
      | none => none
    | .l k => match k.ev s.tm s.hp.get with
      | some v => some ⟨putA s.tm o.dst v, s.hp, s.nx⟩
      | none => none
    | k => match effA call k s.tm s.hp s.nx with
      | some (v, h, nx) => some ⟨putA s.tm o.dst v, h, nx⟩
      | none => none
def runA (call : CallF) : List AOp → St → Option St
  | [], s => some s
  | o :: os, s => match stepA call o s with
    | some s' => runA call os s'
    | none => none

def compC : Op → Option (AO × List AO)
  | .call { callee := .value f, args := args, argTypes := _ } => match compO f, compOs args.toList with
    | some af, some as => some (af, as)
    | _, _ => none
  | _ => none
def compOK (P : Program) (o : Op) : Option OK :=
  match compP P o with
  | some k => some (.p k)
  | none => match compK P o with
    | some k => some (.k k)
    | none => match compL P o with
      | some k => some (.l k)
      | none => match compS P o with
        | some k => some (.s k)
        | none => match compG P o with
          | some k => some (.g k)
          | none => match compC o with
            | some (f, as) => match f with
              | .con (.fn 62 [] []) => some (.x as)
              | f => some (.c f as)
            | none => match compV P o with
              | some k => some (.v k)
              | none => some .st
theorem compOK_p {P : Program} {o : Op} {k : PK} (h : compOK P o = some (.p k)) : compP P o = some k := by
  unfold compOK at h
  (repeat' split at h) <;> simp_all
theorem compOK_k {P : Program} {o : Op} {k : KK} (h : compOK P o = some (.k k)) : compK P o = some k := by
  unfold compOK at h
  (repeat' split at h) <;> simp_all
theorem compOK_l {P : Program} {o : Op} {k : LK} (h : compOK P o = some (.l k)) : compL P o = some k := by
  unfold compOK at h
  (repeat' split at h) <;> simp_all
def compD (nt : Nat) : Option Nat → Option (Option Nat)
  | none => some none
  | some d => match Nat.blt d nt with
    | true => some (some d)
    | false => none
def compGd (ops : Array Oper) : Option (Nat × Bool) → Option (Option (Nat × Bool))
  | none => some none
  | some (j, want) => match (ops[j]?).bind (·.dst) with
    | some t => some (some (t, want))
    | none => none
/-- An operation as compiled: the two last fields are free. -/
def compA (P : Program) (nt : Nat) (ops : Array Oper) (o : Oper) (need : List Nat) (anc : Nat) : Option AOp :=
  match compD nt o.dst, compGd ops o.guard, compOK P o.op with
  | some d, some g, some k => some ⟨d, g, k, need, anc⟩
  | _, _, _ => none
def compAs (P : Program) (nt : Nat) (ops : Array Oper) : List Oper → Option (List AOp)
  | [] => some []
  | o :: os => match compA P nt ops o [] 0, compAs P nt ops os with
    | some a, some as => some (a :: as)
    | _, _ => none

/-! ### 15. The relation of states -/
structure SR [Glo] (ρ : Ren) (s : St) (nt : Nat) (a : Act) (w : World) : Prop where
  tm : AR ρ s.tm a.tmps
  hp : HR ρ s.hp.get w
  fr : Fr ρ s.nx
  ev : s.nx % 2 = 0
  sz : a.tmps.size = nt
structure TR (ρ : Ren) (h : T Blk) (nx : Nat) (w : World) (ρ' : Ren) (h' : T Blk) (nx' : Nat) (w' : World) : Prop where
  ag : Ag nx ρ ρ'
  frm : FR ρ h.get w ρ' h'.get w'
  le : nx ≤ nx'
theorem TR.trans {ρ ρ' ρ'' : Ren} {h h' h'' : T Blk} {nx nx' nx'' : Nat} {w w' w'' : World} (A : TR ρ h nx w ρ' h' nx' w') (B : TR ρ' h' nx' w' ρ'' h'' nx'' w'') : TR ρ h nx w ρ'' h'' nx'' w'' :=
  ⟨A.ag.trans B.ag A.le, A.frm.trans B.frm, Nat.le_trans A.le B.le⟩
theorem TR.same [Glo] {ρ : Ren} {h : T Blk} {nx : Nat} {w : World} (H : HR ρ h.get w) : TR ρ h nx w ρ h nx w := ⟨Ag.refl _ _, FR.refl H (fun _ h => h), Nat.le_refl _⟩

/-- math/bits.Add64 (the model runs it here and now). -/
def XOK (P : Program) : Prop := ∀ (x y c : Nat), c ≤ 1 → ∀ w : World, (callFunc 62 #[.int .u64 x, .int .u64 y, .int .u64 c]).run P w =
  .ok (.value (.tuple #[.int .u64 (((x + y + c) % 18446744073709551616 : Nat) : Int), .int .u64 (((x + y + c) / 18446744073709551616 : Nat) : Int)])) w
/-- What is known of a call. -/
def CallOK [Glo] (P : Program) (call : CallF) : Prop :=
  (∀ f args h nx v h' nx', call f args h nx = some (v, h', nx') → ∀ (ρ : Ren) (w : World) (cargs : Array Value), HR ρ h.get w → Fr ρ nx → nx % 2 = 0 → VRL ρ args cargs.toList →
    (callFunc f cargs).run P w = .ok (.enter f cargs) w ∧
    Calls P f cargs w fun e w' => ∃ cv ρ', e = .returned cv ∧ VR ρ' v cv ∧ HR ρ' h'.get w' ∧ Fr ρ' nx' ∧ nx' % 2 = 0 ∧ TR ρ h nx w ρ' h' nx' w') ∧ XOK P

theorem AR.put {ρ : Ren} {tm : T AV} {a : Act} (A : AR ρ tm a.tmps) {d : Option Nat} (hd : ∀ t, d = some t → t < a.tmps.size) {v : AV} {v' : Value} (hv : VR ρ v v') : AR ρ (putA tm d v) (a.put d v').tmps := by
  cases d with
  | none => exact A
  | some d =>
    intro t u hu
    simp only [putA, T.get_put] at hu
    simp only [Act.put]
    have hd := hd d rfl
    split at hu
    · rename_i e
      subst e
      injection hu with hu
      subst hu
      refine ⟨by simpa using hd, ?_⟩
      simpa [Array.getD, hd] using hv
    · rename_i hne
      obtain ⟨h1, h2⟩ := A t u hu
      refine ⟨by simpa using h1, ?_⟩
      have : (a.tmps.setIfInBounds d v').getD t undef = a.tmps.getD t undef := by
        simp only [Array.getD_eq_getD_getElem?]
        rw [Array.getElem?_setIfInBounds_ne (fun e => hne e.symm)]
      rw [this]
      exact h2
theorem put_size (a : Act) (d : Option Nat) (v : Value) : (a.put d v).tmps.size = a.tmps.size := by cases d <;> simp [Act.put]
theorem put_defers (a : Act) (d : Option Nat) (v : Value) : (a.put d v).defers = a.defers := by cases d <;> rfl

theorem compD_ok {nt : Nat} {d d' : Option Nat} (h : compD nt d = some d') : d' = d ∧ ∀ t, d = some t → t < nt := by
  cases d with
  | none =>
    simp only [compD, Option.some.injEq] at h
    exact ⟨h.symm, fun t e => by cases e⟩
  | some d =>
    simp only [compD] at h
    split at h
    · rename_i hl
      injection h with h
      exact ⟨h.symm, fun t e => by injection e with e; subst e; exact of_eq_true_ hl⟩
    · cases h
theorem want_sound {ρ : Ren} {tm : T AV} {a : Act} (A : AR ρ tm a.tmps) {ops : Array Oper} {o : Oper} {g : Option (Nat × Bool)} (hg : compGd ops o.guard = some g) {b : Bool} (hb : wantA tm g = some b) :
    Region.wanted o (yielded ops a.tmps) = b := by
  unfold Region.wanted
  cases ho : o.guard with
  | none =>
    rw [ho] at hg
    simp only [compGd, Option.some.injEq] at hg
    subst hg
    simp only [wantA, Option.some.injEq] at hb
    exact hb
  | some jw =>
    obtain ⟨j, want⟩ := jw
    rw [ho] at hg
    simp only [compGd] at hg
    split at hg
    · rename_i t ht
      injection hg with hg
      subst hg
      simp only [wantA] at hb
      split at hb
      · rename_i c hc
        injection hb with hb
        subst hb
        obtain ⟨h1, h2⟩ := A t _ hc
        simp only [yielded, ht, Option.bind_some]
        have h3 : a.tmps[t]? = some (a.tmps.getD t undef) := by simp [Array.getD, h1]
        rw [h3]
        generalize a.tmps.getD t undef = vt at h2 ⊢
        cases h2
        cases c <;> cases want <;> rfl
      · rename_i hc
        injection hb with hb
        subst hb
        obtain ⟨h1, h2⟩ := A t _ hc
        simp only [yielded, ht, Option.bind_some]
        have h3 : a.tmps[t]? = some (a.tmps.getD t undef) := by simp [Array.getD, h1]
        rw [h3]
        generalize a.tmps.getD t undef = vt at h2 ⊢
        cases h2
        cases want <;> rfl
      · cases hb
    · cases hg

/-- An effect, carried out. -/
theorem eff_sound [Glo] {P : Program} {call : CallF} (C : CallOK P call) {o : Oper} {k : OK} (hk : compOK P o.op = some k) {ρ : Ren} {tm : T AV} {a : Act} (A : AR ρ tm a.tmps) {h : T Blk} {w : World} (H : HR ρ h.get w) {nx : Nat} (F : Fr ρ nx) (he : nx % 2 = 0)
    {v : AV} {h' : T Blk} {nx' : Nat} (hr : effA call k tm h nx = some (v, h', nx')) {K : Act → World → Prop} {Q : Exit → Act → World → Prop}
    (hK : ∀ cv w' ρ', VR ρ' v cv → HR ρ' h'.get w' → Fr ρ' nx' → nx' % 2 = 0 → TR ρ h nx w ρ' h' nx' w' → K (a.put o.dst cv) w') : o.wp P a w K Q := by
  unfold compOK at hk
  split at hk
  · injection hk with hk; subst hk; simp [effA] at hr
  · split at hk
    · injection hk with hk; subst hk; simp [effA] at hr
    · split at hk
      · injection hk with hk; subst hk; simp [effA] at hr
      · split at hk
        · rename_i sk hsk
          injection hk with hk
          subst hk
          simp only [effA] at hr
          split at hr
          · rename_i h2 hs
            injection hr with hr
            injection hr with hr1 hr2
            injection hr2 with hr2 hr3
            subst hr1 hr2 hr3
            obtain ⟨w', e1, e2, e3⟩ := store_sound hsk A H hs o rfl
            unfold Oper.wp
            rw [e1]
            exact hK undef w' ρ (.tup _ _ .nil) e2 F he ⟨Ag.refl _ _, e3, Nat.le_refl _⟩
          · cases hr
        · split at hk
          · rename_i gk hgk
            injection hk with hk
            subst hk
            simp only [effA] at hr
            split at hr
            · rename_i v2 h2 hs
              injection hr with hr
              injection hr with hr1 hr2
              injection hr2 with hr2 hr3
              subst hr1 hr2 hr3
              obtain ⟨cv, w', ρ', e1, e2, e3, e4, e5, e6⟩ := append_sound H F he hgk A hs o rfl
              unfold Oper.wp
              rw [e1]
              exact hK cv w' ρ' e4 e5 e3 (by omega) ⟨e2, e6, by omega⟩
            · cases hr
          · split at hk
            · rename_i f as hck
              split at hk
              · injection hk with hk
                subst hk
                simp only [effA] at hr
                split at hr
                · rename_i x y c has
                  split at hr
                  · rename_i hc1
                    have hc1 := Nat.ble_eq.mp hc1
                    injection hr with hr
                    injection hr with hr1 hr2
                    injection hr2 with hr2 hr3
                    subst hr1 hr2 hr3
                    unfold compC at hck
                    split at hck
                    · rename_i fo args ts heq
                      split at hck
                      · rename_i af aas h1 h2
                        injection hck with hck
                        injection hck with hck1 hck2
                        subst hck1 hck2
                        have ef := ev_sound A h1 (show AO.ev tm (.con (.fn 62 [] [])) = some (.fn 62 [] []) from rfl)
                        have ea := evs_sound A h2 has
                        unfold Oper.wp execOp
                        rw [heq]
                        simp only [resolve]
                        have el : args.map a.eval = #[.int .u64 x, .int .u64 y, .int .u64 c] := by
                          have : (args.map a.eval).toList = [.int .u64 x, .int .u64 y, .int .u64 c] := by
                            rw [Array.toList_map]
                            generalize args.toList.map a.eval = l at ea
                            cases ea with
                            | cons _ b1 _ bs1 e1 es1 =>
                              cases es1 with
                              | cons _ b2 _ bs2 e2 es2 =>
                                cases es2 with
                                | cons _ b3 _ bs3 e3 es3 =>
                                  cases es3
                                  cases e1
                                  cases e2
                                  cases e3
                                  rfl
                          exact Array.toList_inj.mp this
                        generalize a.eval fo = vf at ef ⊢
                        cases ef with
                        | fn _ _ _ fs' cs' hfs hcs =>
                          have f0 : fs' = #[] := by
                            have := hfs.length
                            simp only [List.length_nil, Array.length_toList] at this
                            exact Array.eq_empty_of_size_eq_zero this.symm
                          have c0 : cs' = #[] := by
                            have := hcs.length
                            simp only [List.length_nil, Array.length_toList] at this
                            exact Array.eq_empty_of_size_eq_zero this.symm
                          subst f0 c0
                          have hx := C.2 x y c hc1 w
                          rw [el]
                          simp only [Deferred.ofValue, Sem.run_bind, Sem.run_pure, Result.andThen_ok, invoke, Array.empty_append, Array.append_empty, hx, Oper.upon]
                          exact hK _ w ρ (.tup _ _ (.cons _ _ _ _ (.int _ _) (.cons _ _ _ _ (.int _ _) .nil))) H F he (TR.same H)
                      · cases hck
                    · cases hck
                  · cases hr
                · cases hr
              · injection hk with hk
                subst hk
                simp only [effA] at hr
                split at hr
                · rename_i f fs cs vs hf has
                  unfold compC at hck
                  split at hck
                  · rename_i fo args ts heq
                    split at hck
                    · rename_i af aas h1 h2
                      injection hck with hck
                      injection hck with hck1 hck2
                      subst hck1 hck2
                      have ef := ev_sound A h1 hf
                      have ea := evs_sound A h2 has
                      unfold Oper.wp execOp
                      rw [heq]
                      simp only [resolve]
                      generalize a.eval fo = vf at ef ⊢
                      cases ef with
                      | fn _ _ _ fs' cs' hfs hcs =>
                        have hargs : VRL ρ (fs ++ (vs ++ cs)) (fs' ++ args.map a.eval ++ cs').toList := by
                          simp only [Array.toList_append, Array.toList_map, List.append_assoc]
                          exact hfs.append (ea.append hcs)
                        obtain ⟨c1, c2⟩ := C.1 f _ h nx v h' nx' hr ρ w _ H F he hargs
                        simp only [Deferred.ofValue, Sem.run_bind, Sem.run_pure, Result.andThen_ok, invoke, c1, Oper.upon]
                        refine c2.mono fun e w' hh => ?_
                        obtain ⟨cv, ρ', rfl, e1, e2, e3, e4, e5⟩ := hh
                        exact hK cv w' ρ' e1 e2 e3 e4 e5
                    · cases hck
                  · cases hck
                · cases hr
            · split at hk
              · rename_i vk hvk
                injection hk with hk
                subst hk
                simp only [effA] at hr
                split at hr
                · rename_i v2 hs
                  injection hr with hr
                  injection hr with hr1 hr2
                  injection hr2 with hr2 hr3
                  subst hr1 hr2 hr3
                  obtain ⟨cv, e1, e2⟩ := conv_sound hvk A H hs o rfl
                  unfold Oper.wp
                  rw [e1]
                  exact hK cv w ρ e2 H F he (TR.same H)
                · cases hr
              · injection hk with hk
                subst hk
                simp [effA] at hr

/-- One operation of a region that keeps to the text's order. -/
theorem step_sound [Glo] {P : Program} {call : CallF} (C : CallOK P call) {nt : Nat} {ops : Array Oper} {o : Oper} {need : List Nat} {anc : Nat} {ao : AOp} (hc : compA P nt ops o need anc = some ao) {ρ : Ren} {s s' : St} {a : Act} {w : World} (S : SR ρ s nt a w)
    (hr : stepA call ao s = some s') {K : Act → World → Prop} {Q : Exit → Act → World → Prop}
    (hK : ∀ a' w' ρ', SR ρ' s' nt a' w' → TR ρ s.hp s.nx w ρ' s'.hp s'.nx w' → a'.defers = a.defers → K a' w') :
    if Region.wanted o (yielded ops a.tmps) then o.wp P a w K Q else K (a.put o.dst undef) w := by
  unfold compA at hc
  split at hc
  · rename_i d g k hd hg hk
    injection hc with hc
    subst hc
    obtain ⟨rfl, hdl⟩ := compD_ok hd
    have hdl' : ∀ t, o.dst = some t → t < a.tmps.size := fun t e => by rw [S.sz]; exact hdl t e
    have done : ∀ {v : AV} {cv : Value} {w' : World} {ρ' : Ren} {h' : T Blk} {nx' : Nat}, VR ρ' v cv → HR ρ' h'.get w' → Fr ρ' nx' → nx' % 2 = 0 → TR ρ s.hp s.nx w ρ' h' nx' w' → s' = ⟨putA s.tm o.dst v, h', nx'⟩ → K (a.put o.dst cv) w' := by
      intro v cv w' ρ' h' nx' h1 h2 h3 h4 h5 h6
      subst h6
      refine hK _ w' ρ' ⟨AR.put (S.tm.ext (h5.ag.ext S.fr)) hdl' h1, h2, h3, h4, by rw [put_size]; exact S.sz⟩ h5 (put_defers _ _ _)
    simp only [stepA] at hr
    split at hr
    · cases hr
    · rename_i hw
      rw [want_sound S.tm hg hw]
      simp only [Bool.false_eq_true, if_false]
      injection hr with hr
      exact done (v := undefA) (.tup _ _ .nil) S.hp S.fr S.ev (TR.same S.hp) hr.symm
    · rename_i hw
      rw [want_sound S.tm hg hw]
      simp only [if_true]
      split at hr
      · rename_i pk
        split at hr
        · rename_i v hv
          injection hr with hr
          obtain ⟨cv, e1, e2⟩ := pure_sound S.tm w (compOK_p hk) hv o rfl
          unfold Oper.wp
          rw [e1]
          exact done e2 S.hp S.fr S.ev (TR.same S.hp) hr.symm
        · cases hr
      · rename_i kk
        split at hr
        · rename_i blk ld hv
          injection hr with hr
          obtain ⟨cs, cv, e1, e2, e3⟩ := alloc_sound (compOK_k hk) S.tm w hv o rfl
          have hid : ρ s.nx = none := S.fr _ (Nat.le_refl _)
          unfold Oper.wp
          rw [e1]
          refine done (h' := s.hp.put s.nx blk) (nx' := s.nx + 2) (e3 _ s.nx (Ren.up_self _ _ _)) ?_ (Fr.up _ S.fr (by omega) (by omega)) (by have := S.ev; omega) ⟨Ag.up _ (Nat.le_refl _), ?_, by omega⟩ hr.symm
          · rw [HF.get_put]
            exact S.hp.alloc hid blk cs e2
          · rw [HF.get_put]
            exact S.hp.alloc_FR hid blk cs
        · cases hr
      · rename_i lk
        split at hr
        · rename_i v hv
          injection hr with hr
          obtain ⟨cv, e1, e2⟩ := load_sound (compOK_l hk) S.tm S.hp hv o rfl
          unfold Oper.wp
          rw [e1]
          exact done e2 S.hp S.fr S.ev (TR.same S.hp) hr.symm
        · cases hr
      · split at hr
        · rename_i v h' nx' hv
          injection hr with hr
          exact eff_sound C hk S.tm S.hp S.fr S.ev hv (fun cv w' ρ' h1 h2 h3 h4 h5 => done h1 h2 h3 h4 h5 hr.symm)
        · cases hr
  · cases hc

theorem list_sound [Glo] {P : Program} {call : CallF} (C : CallOK P call) {nt : Nat} {ops : Array Oper} {Q : Exit → Act → World → Prop} : ∀ {l : List Oper} {as : List AOp}, compAs P nt ops l = some as → ∀ {ρ : Ren} {s s' : St} {a : Act} {w : World}, SR ρ s nt a w →
    runA call as s = some s' → (∀ a' w' ρ', SR ρ' s' nt a' w' → TR ρ s.hp s.nx w ρ' s'.hp s'.nx w' → a'.defers = a.defers → Q .normal a' w') → wpList P ops Q l a w
  | [], as, hc, ρ, s, s', a, w, S, hr, hQ => by
    simp only [compAs, Option.some.injEq] at hc
    subst hc
    simp only [runA, Option.some.injEq] at hr
    subst hr
    exact wpList_nil (hQ a w ρ S (TR.same S.hp) rfl)
  | o :: l, as, hc, ρ, s, s', a, w, S, hr, hQ => by
    simp only [compAs] at hc
    split at hc
    · rename_i ao aos h1 h2
      injection hc with hc
      subst hc
      simp only [runA] at hr
      split at hr
      · rename_i s1 hs1
        refine wpList_step fun K hK => ?_
        refine step_sound C h1 S hs1 fun a' w' ρ' S' T' D' => hK _ _ ?_
        exact list_sound C h2 S' hr fun a'' w'' ρ'' S'' T'' D'' => hQ a'' w'' ρ'' S'' (T'.trans T'') (D''.trans D')
      · cases hr
    · cases hc
end
end Go.Proofs.YtdndcigppbhhdaaDoorAM
