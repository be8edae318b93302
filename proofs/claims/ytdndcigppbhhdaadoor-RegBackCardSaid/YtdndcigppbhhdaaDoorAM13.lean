/-
  The interpreter over abstract values: code, functions, calls; the theorem. (text 13)
-/
import Derived.Test.YtdndcigppbhhdaaDoorAM12
import Derived.Scope
namespace Go.Proofs.YtdndcigppbhhdaaDoorAM
open Go.RowKit
set_option linter.unusedSimpArgs false
set_option linter.unusedVariables false
noncomputable section

/-! ### 21. Code -/
inductive Out where
  | nor
  | exit (id : Nat)
  | ret
  | goto (l : Nat)
def lkA : List (Nat × AC) → Nat → Option AC
  | [], _ => none
  | p :: l, i => match Nat.beq p.1 i with
    | true => some p.2
    | false => lkA l i
def execS (call : CallF) (ih : AC → St → Option (Out × St)) (c : AC) (s : St) : Option (Out × St) :=
  match c with
  | .skip => some (.nor, s)
  | .exit id => some (.exit id, s)
  | .ret => some (.ret, s)
  | .reg os => match runA call os s with
    | some s' => some (.nor, s')
    | none => none
  | .dreg os => match runDr call os s with
    | some s' => some (.nor, s')
    | none => none
  | .seq a b => match ih a s with
    | some (.nor, s1) => ih b s1
    | r => r
  | .cond x a b => match x.ev s.tm with
    | some (.bool true) => ih a s
    | some (.bool false) => ih b s
    | _ => none
  | .block id b => match ih b s with
    | some (.exit i, s1) => match Nat.beq i id with
      | true => some (.nor, s1)
      | false => some (.exit i, s1)
    | r => r
  | .loop b => match ih b s with
    | some (.nor, s1) => ih (.loop b) s1
    | r => r
  | .goto l => some (.goto l, s)
  | .scope b ls => match ih b s with
    | some (.goto l, s1) => match lkA ls l with
      | some a => ih (.scope a ls) s1
      | none => none
    | r => r
  | .stuck => none
def exec (call : CallF) (n : Nat) : AC → St → Option (Out × St) :=
  Nat.rec (motive := fun _ => AC → St → Option (Out × St)) (fun _ _ => none) (fun _ ih => execS call ih) n

/-- A piece of code, compiled; and what stands behind each of its labels. -/
def compCL (P : Program) (nt : Nat) : Code → Option AC × List (Nat × AC)
  | .skip => (some .skip, [])
  | .exit id => (some (.exit id), [])
  | .ret => (some .ret, [])
  | .region _ ops true => (match compDr P nt ops with
    | some os => some (.dreg os)
    | none => some .stuck, [])
  | .region _ ops false => ((compAs P nt ops ops.toList).map .reg, [])
  | .seq a b => (match (compCL P nt a).1, (compCL P nt b).1 with
    | some a, some b => some (.seq a b)
    | _, _ => none, match (compCL P nt b).1 with
    | some cb => (compCL P nt a).2.map (fun p => (p.1, AC.seq p.2 cb)) ++ (compCL P nt b).2
    | none => [])
  | .cond x a b => (match compO x, (compCL P nt a).1, (compCL P nt b).1 with
    | some x, some a, some b => some (.cond x a b)
    | _, _, _ => none, [])
  | .block id b => ((compCL P nt b).1.map (.block id), [])
  | .loop b => ((compCL P nt b).1.map .loop, [])
  | .label l => (some .skip, [(l, .skip)])
  | .goto l => (some (.goto l), [])
  | .scope b => ((compCL P nt b).1.map (fun a => .scope a (compCL P nt b).2), [])
  | _ => (some .stuck, [])
def compCode (P : Program) (nt : Nat) (c : Code) : Option AC := (compCL P nt c).1
theorem lkA_append {l1 l2 : List (Nat × AC)} {i : Nat} : lkA (l1 ++ l2) i = match lkA l1 i with
    | some a => some a
    | none => lkA l2 i := by
  induction l1 with
  | nil => rfl
  | cons p l ih =>
    simp only [List.cons_append, lkA]
    cases Nat.beq p.1 i
    · exact ih
    · rfl
theorem lkA_map {l : List (Nat × AC)} {cb : AC} {i : Nat} : lkA (l.map (fun p => (p.1, AC.seq p.2 cb))) i = (lkA l i).map (fun a => AC.seq a cb) := by
  induction l with
  | nil => rfl
  | cons p l ih =>
    simp only [List.map_cons, lkA]
    cases Nat.beq p.1 i
    · exact ih
    · rfl
theorem comp_labels {P : Program} {nt : Nat} : ∀ (c : Code) (ac : AC), compCode P nt c = some ac → ∀ l ra, lkA (compCL P nt c).2 l = some ra → ∃ rest, findLabel c l = some rest ∧ compCode P nt rest = some ra
  | .seq a b, ac, hc, l, ra, h => by
    simp only [compCode, compCL] at hc
    split at hc
    · rename_i ca cb ha hb
      simp only [compCL, hb] at h
      rw [lkA_append, lkA_map] at h
      cases hl : lkA (compCL P nt a).2 l with
      | some r0 =>
        rw [hl] at h
        simp only [Option.map_some, Option.some.injEq] at h
        subst h
        obtain ⟨rest, h1, h2⟩ := comp_labels a ca ha l r0 hl
        refine ⟨.seq rest b, by simp [findLabel, h1], ?_⟩
        have h2 : (compCL P nt rest).1 = some r0 := h2
        simp only [compCode, compCL, h2, hb]
      | none =>
        rw [hl] at h
        simp only [Option.map_none] at h
        obtain ⟨rest, h1, h2⟩ := comp_labels b cb hb l ra h
        have hn := comp_none a ca ha l hl
        exact ⟨rest, by simp [findLabel, hn, h1], h2⟩
    · cases hc
  | .label l', ac, hc, l, ra, h => by
    simp only [compCL, lkA] at h
    split at h
    · rename_i e
      have e := Nat.eq_of_beq_eq_true e
      injection h with h
      subst h e
      exact ⟨.skip, by simp [findLabel], rfl⟩
    · cases h
  | .skip, _, _, _, _, h => by simp [compCL, lkA] at h
  | .exit _, _, _, _, _, h => by simp [compCL, lkA] at h
  | .ret, _, _, _, _, h => by simp [compCL, lkA] at h
  | .region _ _ true, _, _, _, _, h => by simp [compCL, lkA] at h
  | .region _ _ false, _, _, _, _, h => by simp [compCL, lkA] at h
  | .cond _ _ _, _, _, _, _, h => by simp [compCL, lkA] at h
  | .block _ _, _, _, _, _, h => by simp [compCL, lkA] at h
  | .loop _, _, _, _, _, h => by simp [compCL, lkA] at h
  | .goto _, _, _, _, _, h => by simp [compCL, lkA] at h
  | .scope _, _, _, _, _, h => by simp [compCL, lkA] at h
  | .rangeFunc _ _ _ _, _, _, _, _, h => by simp [compCL, lkA] at h
  | .refuse _, _, _, _, _, h => by simp [compCL, lkA] at h
where
  comp_none : ∀ (c : Code) (ac : AC), compCode P nt c = some ac → ∀ l, lkA (compCL P nt c).2 l = none → findLabel c l = none
  | .seq a b, ac, hc, l, h => by
    simp only [compCode, compCL] at hc
    split at hc
    · rename_i ca cb ha hb
      simp only [compCL, hb] at h
      rw [lkA_append, lkA_map] at h
      cases hl : lkA (compCL P nt a).2 l with
      | some r0 =>
        rw [hl] at h
        simp at h
      | none =>
        rw [hl] at h
        simp only [Option.map_none] at h
        have h1 := comp_none a ca ha l hl
        have h2 := comp_none b cb hb l h
        simp [findLabel, h1, h2]
    · cases hc
  | .label l', ac, hc, l, h => by
    simp only [compCL, lkA] at h
    split at h
    · cases h
    · rename_i e
      have e := Nat.ne_of_beq_eq_false e
      simp [findLabel, e]
  | .skip, _, _, _, _ => rfl
  | .exit _, _, _, _, _ => rfl
  | .ret, _, _, _, _ => rfl
  | .region _ _ _, _, _, _, _ => rfl
  | .cond _ _ _, _, _, _, _ => rfl
  | .block _ _, _, _, _, _ => rfl
  | .loop _, _, _, _, _ => rfl
  | .goto _, _, _, _, _ => rfl
  | .scope _, _, _, _, _ => rfl
  | .rangeFunc _ _ _ _, _, _, _, _ => rfl
  | .refuse _, _, _, _, _ => rfl

/-- Within a scope c, from rest on. -/
def InSc (P : Program) (c rest : Code) (Q : Exit → Act → World → Prop) (a : Act) (w : World) : Prop := ∀ b k cs, ∃ e a' w', Q e a' w' ∧ Arrives P (lone (b.at a (.code rest :: .inScope c :: k)) cs w) b k cs e a' w'
theorem insc_start {P : Program} {c : Code} {Q : Exit → Act → World → Prop} {a : Act} {w : World} (h : InSc P c c Q a w) : (Code.scope c).wp P Q a w := by
  intro b k cs
  obtain ⟨e, a1, w1, hq, harr⟩ := h b k cs
  exact ⟨e, a1, w1, hq, .of_steps (.one step_scope) harr⟩
theorem insc_step {P : Program} {c rest : Code} {R Q : Exit → Act → World → Prop} {a : Act} {w : World} (h : rest.wp P R a w)
    (hg : ∀ l a' w', R (.goto l) a' w' → ∃ rest', findLabel c l = some rest' ∧ InSc P c rest' Q a' w') (ho : ∀ e a' w', (∀ l, e ≠ .goto l) → R e a' w' → Q e a' w') : InSc P c rest Q a w := by
  intro b k cs
  obtain ⟨e, a1, w1, hq, harr⟩ := h b (.inScope c :: k) cs
  cases e with
  | normal => exact ⟨.normal, a1, w1, ho _ _ _ (fun l h => by cases h) hq, Steps.trans harr (.one step_inScope)⟩
  | exit id => exact ⟨.exit id, a1, w1, ho _ _ _ (fun l h => by cases h) hq, fun k' hk => harr k' (by simp [exitTo, hk])⟩
  | goto l =>
    obtain ⟨rest', hf, hI⟩ := hg l a1 w1 hq
    have hgo : gotoIn l (.inScope c :: k) = some (.code rest' :: .inScope c :: k) := by simp [gotoIn, hf]
    obtain ⟨e2, a2, w2, hq2, harr2⟩ := hI b k cs
    exact ⟨e2, a2, w2, hq2, .of_steps (harr _ hgo) harr2⟩
  | ret => exact ⟨_, a1, w1, ho _ _ _ (fun l h => by cases h) hq, harr⟩
  | panic ch => exact ⟨_, a1, w1, ho _ _ _ (fun l h => by cases h) hq, harr⟩
  | outgrown => exact ⟨_, a1, w1, ho _ _ _ (fun l h => by cases h) hq, harr⟩

def OutR : Out → Exit → Prop
  | .nor, .normal => True
  | .exit id, .exit id' => id = id'
  | .ret, .ret => True
  | .goto l, .goto l' => l = l'
  | _, _ => False
/-- What holds behind a piece of code. -/
def PostC [Glo] (ρ : Ren) (s : St) (w : World) (df : List Deferred) (nt : Nat) (out : Out) (s' : St) : Exit → Act → World → Prop := fun e a' w' =>
  OutR out e ∧ a'.defers = df ∧ ∃ ρ', SR ρ' s' nt a' w' ∧ TR ρ s.hp s.nx w ρ' s'.hp s'.nx w'

def CodeOK [Glo] (P : Program) (call : CallF) (nt : Nat) (n : Nat) : Prop := ∀ (c : Code) (ac : AC), compCode P nt c = some ac → ∀ (ρ : Ren) (s s' : St) (out : Out) (a : Act) (w : World), SR ρ s nt a w →
    exec call n ac s = some (out, s') → c.wp P (PostC ρ s w a.defers nt out s') a w
theorem code_step [Glo] {P : Program} {call : CallF} (C : CallOK P call) (hm : P.follows .mixedOrders = true) {nt : Nat} : ∀ (n : Nat), (∀ m, m < n → CodeOK P call nt m) → CodeOK P call nt n
  | 0, _, c, ac, hc, ρ, s, s', out, a, w, S, hr => by simp [exec] at hr
  | n + 1, ihs, c, ac, hc, ρ, s, s', out, a, w, S, hr => by
    have ih : CodeOK P call nt n := ihs n (by omega)
    have hr : execS call (exec call n) ac s = some (out, s') := hr
    cases c with
    | skip =>
      simp only [compCode, compCL, Option.some.injEq] at hc
      subst hc
      simp only [execS] at hr
      injection hr with hr
      injection hr with h1 h2
      subst h1 h2
      exact wp_skip ⟨trivial, rfl, ρ, S, TR.same S.hp⟩
    | exit id =>
      simp only [compCode, compCL, Option.some.injEq] at hc
      subst hc
      simp only [execS] at hr
      injection hr with hr
      injection hr with h1 h2
      subst h1 h2
      exact wp_exit ⟨rfl, rfl, ρ, S, TR.same S.hp⟩
    | ret =>
      simp only [compCode, compCL, Option.some.injEq] at hc
      subst hc
      simp only [execS] at hr
      injection hr with hr
      injection hr with h1 h2
      subst h1 h2
      exact wp_ret ⟨trivial, rfl, ρ, S, TR.same S.hp⟩
    | region id ops draw =>
      cases draw with
      | true =>
        simp only [compCode, compCL] at hc
        split at hc
        · rename_i os h1
          injection hc with hc
          subst hc
          simp only [execS] at hr
          split at hr
          · rename_i s1 hs
            injection hr with hr
            injection hr with h2 h3
            subst h2 h3
            exact dreg_sound C hm h1 S hs (fun a' w' ρ' S' T' D' => ⟨trivial, D', ρ', S', T'⟩)
          · cases hr
        · injection hc with hc
          subst hc
          simp [execS] at hr
      | false =>
        simp only [compCode, compCL] at hc
        obtain ⟨os, h1, rfl⟩ := Option.map_eq_some_iff.1 hc
        simp only [execS] at hr
        split at hr
        · rename_i s1 hs
          injection hr with hr
          injection hr with h2 h3
          subst h2 h3
          exact wp_region_list (list_sound C h1 S hs (fun a' w' ρ' S' T' D' => ⟨trivial, D', ρ', S', T'⟩))
        · cases hr
    | seq x y =>
      simp only [compCode, compCL] at hc
      split at hc
      · rename_i ax ay h1 h2
        injection hc with hc
        subst hc
        simp only [execS] at hr
        have fin : ∀ {o1 : Out} {s1 : St}, exec call n ax s = some (o1, s1) → (∀ a' w' ρ', o1 = .nor → SR ρ' s1 nt a' w' → a'.defers = a.defers → TR ρ s.hp s.nx w ρ' s1.hp s1.nx w' → y.wp P (PostC ρ s w a.defers nt out s') a' w') → (o1 ≠ .nor → out = o1 ∧ s' = s1) →
            (Code.seq x y).wp P (PostC ρ s w a.defers nt out s') a w := by
          intro o1 s1 he hy hn
          refine wp_seq (Code.wp_mono (fun e a' w' hq => ?_) (ih x ax h1 ρ s s1 o1 a w S he))
          obtain ⟨q1, q2, ρ', q3, q4⟩ := hq
          cases o1 with
          | nor =>
            cases e <;> simp only [OutR] at q1
            exact hy a' w' ρ' rfl q3 q2 q4
          | exit i =>
            obtain ⟨r1, r2⟩ := hn (by simp)
            subst r1 r2
            cases e <;> simp only [OutR] at q1
            exact ⟨q1, q2, ρ', q3, q4⟩
          | ret =>
            obtain ⟨r1, r2⟩ := hn (by simp)
            subst r1 r2
            cases e <;> simp only [OutR] at q1
            exact ⟨trivial, q2, ρ', q3, q4⟩
          | goto l =>
            obtain ⟨r1, r2⟩ := hn (by simp)
            subst r1 r2
            cases e <;> simp only [OutR] at q1
            exact ⟨q1, q2, ρ', q3, q4⟩
        split at hr
        · rename_i s1 hs
          refine fin hs (fun a' w' ρ' _ S' D' T' => ?_) (fun h => absurd rfl h)
          refine Code.wp_mono (fun e a'' w'' hq => ?_) (ih y ay h2 ρ' s1 s' out a' w' S' hr)
          obtain ⟨q1, q2, ρ'', q3, q4⟩ := hq
          exact ⟨q1, q2.trans D', ρ'', q3, T'.trans q4⟩
        · rename_i hne
          refine fin hr (fun a' w' ρ' e _ _ _ => ?_) (fun _ => ⟨rfl, rfl⟩)
          subst e
          exact absurd hr (hne s')
      · cases hc
    | cond x y z =>
      simp only [compCode, compCL] at hc
      split at hc
      · rename_i ax ay az h1 h2 h3
        injection hc with hc
        subst hc
        simp only [execS] at hr
        split at hr
        · rename_i hb
          have hv := ev_sound S.tm h1 hb
          have : a.eval x = .bool true := by
            generalize a.eval x = vx at hv ⊢
            cases hv
            rfl
          exact wp_cond_true this (ih y ay h2 ρ s s' out a w S hr)
        · rename_i hb
          have hv := ev_sound S.tm h1 hb
          have : a.eval x = .bool false := by
            generalize a.eval x = vx at hv ⊢
            cases hv
            rfl
          exact wp_cond_false this (ih z az h3 ρ s s' out a w S hr)
        · cases hr
      · cases hc
    | block id b =>
      simp only [compCode, compCL] at hc
      obtain ⟨ab, h1, rfl⟩ := Option.map_eq_some_iff.1 hc
      simp only [execS] at hr
      refine wp_block ?_
      split at hr
      · rename_i i s1 hs
        refine Code.wp_mono (fun e a' w' hq => ?_) (ih b ab h1 ρ s s1 (.exit i) a w S hs)
        obtain ⟨q1, q2, ρ', q3, q4⟩ := hq
        cases e <;> simp only [OutR] at q1
        subst q1
        simp only [Exit.inBlock]
        split at hr
        · rename_i hi
          have hi := Nat.eq_of_beq_eq_true hi
          injection hr with hr
          injection hr with r1 r2
          subst r1 r2
          rw [if_pos hi]
          exact ⟨trivial, q2, ρ', q3, q4⟩
        · rename_i hi
          have hi := Nat.ne_of_beq_eq_false hi
          injection hr with hr
          injection hr with r1 r2
          subst r1 r2
          rw [if_neg hi]
          exact ⟨rfl, q2, ρ', q3, q4⟩
      · rename_i hne
        refine Code.wp_mono (fun e a' w' hq => ?_) (ih b ab h1 ρ s s' out a w S hr)
        cases e with
        | exit i =>
          exfalso
          have q1 := hq.1
          cases out with
          | exit j => exact hne j s' hr
          | _ => exact q1
        | _ => exact hq
    | loop b =>
      have hc0 := hc
      simp only [compCode, compCL] at hc
      obtain ⟨ab, h1, rfl⟩ := Option.map_eq_some_iff.1 hc
      -- rounds, as many as there are
      have key : ∀ (m : Nat) (ρ1 : Ren) (s1 : St) (a1 : Act) (w1 : World), m ≤ n + 1 → SR ρ1 s1 nt a1 w1 → exec call m (.loop ab) s1 = some (out, s') → a1.defers = a.defers → TR ρ s.hp s.nx w ρ1 s1.hp s1.nx w1 →
          Code.rounds P b (PostC ρ s w a.defers nt out s') m a1 w1 := by
        intro m
        induction m with
        | zero => intro ρ1 s1 a1 w1 _ _ he; simp [exec] at he
        | succ m ihm =>
          intro ρ1 s1 a1 w1 hm' S1 he D1 T1
          have he : execS call (exec call m) (.loop ab) s1 = some (out, s') := he
          simp only [execS] at he
          rw [rounds_succ]
          have ihb : CodeOK P call nt m := ihs m (by omega)
          split at he
          · rename_i s2 hs
            refine Code.wp_mono (fun e a' w' hq => ?_) (ihb b ab h1 ρ1 s1 s2 .nor a1 w1 S1 hs)
            obtain ⟨q1, q2, ρ', q3, q4⟩ := hq
            cases e <;> simp only [OutR] at q1
            exact ihm ρ' s2 a' w' (by omega) q3 he (q2.trans D1) (T1.trans q4)
          · rename_i hne
            refine Code.wp_mono (fun e a' w' hq => ?_) (ihb b ab h1 ρ1 s1 s' out a1 w1 S1 he)
            obtain ⟨q1, q2, ρ', q3, q4⟩ := hq
            cases e with
            | normal =>
              exfalso
              cases out with
              | nor => exact hne s' he
              | _ => exact q1
            | _ => exact ⟨q1, q2.trans D1, ρ', q3, T1.trans q4⟩
      exact wp_loop_rounds (n + 1) (key (n + 1) ρ s a w (Nat.le_refl _) S hr rfl (TR.same S.hp))
    | label l =>
      simp only [compCode, compCL, Option.some.injEq] at hc
      subst hc
      simp only [execS] at hr
      injection hr with hr
      injection hr with h1 h2
      subst h1 h2
      exact wp_label ⟨trivial, rfl, ρ, S, TR.same S.hp⟩
    | goto l =>
      simp only [compCode, compCL, Option.some.injEq] at hc
      subst hc
      simp only [execS] at hr
      injection hr with hr
      injection hr with h1 h2
      subst h1 h2
      exact wp_goto ⟨rfl, rfl, ρ, S, TR.same S.hp⟩
    | scope b =>
      simp only [compCode, compCL] at hc
      obtain ⟨ab, h1, rfl⟩ := Option.map_eq_some_iff.1 hc
      have key : ∀ (m : Nat) (rest : Code) (ra : AC) (ρ1 : Ren) (s1 : St) (a1 : Act) (w1 : World), m ≤ n + 1 → compCode P nt rest = some ra → SR ρ1 s1 nt a1 w1 → exec call m (.scope ra (compCL P nt b).2) s1 = some (out, s') → a1.defers = a.defers → TR ρ s.hp s.nx w ρ1 s1.hp s1.nx w1 →
          InSc P b rest (PostC ρ s w a.defers nt out s') a1 w1 := by
        intro m
        induction m with
        | zero => intro rest ra ρ1 s1 a1 w1 _ _ _ he; simp [exec] at he
        | succ m ihm =>
          intro rest ra ρ1 s1 a1 w1 hm' hra S1 he D1 T1
          have he : execS call (exec call m) (.scope ra (compCL P nt b).2) s1 = some (out, s') := he
          simp only [execS] at he
          have ihb : CodeOK P call nt m := ihs m (by omega)
          split at he
          · rename_i l s2 hs
            split at he
            · rename_i ra' hl
              obtain ⟨rest', hf, hra'⟩ := comp_labels b ab h1 l ra' hl
              refine insc_step (ihb rest ra hra ρ1 s1 s2 (.goto l) a1 w1 S1 hs) (fun l' a' w' hq => ?_) (fun e a' w' hne hq => ?_)
              · obtain ⟨q1, q2, ρ', q3, q4⟩ := hq
                simp only [OutR] at q1
                subst q1
                exact ⟨rest', hf, ihm rest' ra' ρ' s2 a' w' (by omega) hra' q3 he (q2.trans D1) (T1.trans q4)⟩
              · have q1 := hq.1
                cases e <;> simp only [OutR] at q1
                exact absurd rfl (hne _)
            · cases he
          · rename_i hne0
            refine insc_step (ihb rest ra hra ρ1 s1 s' out a1 w1 S1 he) (fun l' a' w' hq => ?_) (fun e a' w' hne hq => ?_)
            · exfalso
              have q1 := hq.1
              cases out with
              | goto l0 => exact hne0 l0 s' he
              | _ => simp only [OutR] at q1
            · obtain ⟨q1, q2, ρ', q3, q4⟩ := hq
              exact ⟨q1, q2.trans D1, ρ', q3, T1.trans q4⟩
      exact insc_start (key (n + 1) b ab ρ s a w (Nat.le_refl _) h1 S hr rfl (TR.same S.hp))
    | _ =>
      simp only [compCode, compCL, Option.some.injEq] at hc
      subst hc
      simp [execS] at hr
theorem code_sound [Glo] {P : Program} {call : CallF} (C : CallOK P call) (hm : P.follows .mixedOrders = true) {nt : Nat} (n : Nat) : CodeOK P call nt n :=
  Nat.strongRecOn n (fun n ih => code_step C hm n ih)

/-! ### 22. Functions and calls -/
inductive ARes where
  | tmp (t : Nat)
  | cell (t : Nat) (agg : Bool) (sz : Nat)
  deriving Inhabited
structure AFn where
  nt : Nat
  body : AC
  res : List ARes
def ARes.ev (s : St) : ARes → Option AV
  | .tmp t => s.tm.get t
  | .cell t agg sz => match s.tm.get t with
    | some (.ptr id off) => loadAt s.hp.get agg sz id off
    | _ => none
def resEvs (s : St) : List ARes → Option (List AV)
  | [] => some []
  | r :: rs => match r.ev s, resEvs s rs with
    | some v, some vs => some (v :: vs)
    | _, _ => none
def resA (s : St) (rs : List ARes) : Option AV :=
  match resEvs s rs with
  | some [v] => some v
  | some vs => some (.tup vs)
  | none => none
def argsT : List AV → Nat → T AV → T AV
  | [], _, t => t
  | v :: vs, i, t => argsT vs (i + 1) (t.put i v)
def callN (env : Nat → Option AFn) (fl : Nat) (n : Nat) : CallF :=
  Nat.rec (motive := fun _ => CallF) (fun _ _ _ _ => none) (fun _ ih f args h nx =>
    match env f with
    | none => none
    | some fn => match Nat.ble args.length fn.nt with
      | false => none
      | true => match exec ih fl fn.body ⟨argsT args 0 .e, h, nx⟩ with
        | some (.nor, s) => match resA s fn.res with
          | some v => some (v, s.hp, s.nx)
          | none => none
        | some (.ret, s) => match resA s fn.res with
          | some v => some (v, s.hp, s.nx)
          | none => none
        | _ => none) n

def compRes (P : Program) (nt : Nat) : List ResultVar → Option (List ARes)
  | [] => some []
  | .tmp t :: rs => (compRes P nt rs).map (.tmp t :: ·)
  | .cell t ty :: rs => match tyOf P ty, compRes P nt rs with
    | some a, some r => some (.cell t a.agg a.size :: r)
    | _, _ => none
def compFn (P : Program) (fn : Func) : Option AFn :=
  match fn.body with
  | some c => match compCode P fn.ntmps c, compRes P fn.ntmps fn.results.toList with
    | some b, some r => some ⟨fn.ntmps, b, r⟩
    | _, _ => none
  | none => none
def EnvOK (P : Program) (env : Nat → Option AFn) : Prop :=
  ∀ f af, env f = some af → ∃ fn, P.funcs[f]? = some fn ∧ (fn.name == "runtime.NumGoroutine") = false ∧ compFn P fn = some af

theorem argsT_get {ρ : Ren} : ∀ {vs : List AV} {cs : List Value}, VRL ρ vs cs → ∀ (i : Nat) (t : T AV) (k : Nat) (v : AV), (argsT vs i t).get k = some v → (∃ j c, k = i + j ∧ cs[j]? = some c ∧ VR ρ v c) ∨ t.get k = some v
  | _, _, .nil, i, t, k, v, h => .inr h
  | _, _, .cons a b as bs e es, i, t, k, v, h => by
    simp only [argsT] at h
    rcases argsT_get es (i + 1) (t.put i a) k v h with ⟨j, c, h1, h2, h3⟩ | h1
    · exact .inl ⟨j + 1, c, by omega, by simpa using h2, h3⟩
    · rw [T.get_put] at h1
      split at h1
      · rename_i hk
        injection h1 with h1
        subst h1
        exact .inl ⟨0, b, by omega, rfl, e⟩
      · exact .inr h1

def resRun (a : Act) : ResultVar → Sem Value
  | .tmp t => pure (a.tmps.getD t undef)
  | .cell b t => do loadVar t (← asAddr (a.tmps.getD b undef))
theorem resEvs_sound [Glo] {P : Program} {nt : Nat} {ρ : Ren} {s : St} {a : Act} {w : World} (S : SR ρ s nt a w) : ∀ {rs : List ResultVar} {ars : List ARes}, compRes P nt rs = some ars → ∀ {vs : List AV}, resEvs s ars = some vs →
    ∃ cs : List Value, (rs.mapM (resRun a)).run P w = .ok cs w ∧ VRL ρ vs cs
  | [], ars, hc, vs, hv => by
    simp only [compRes, Option.some.injEq] at hc
    subst hc
    simp only [resEvs, Option.some.injEq] at hv
    subst hv
    exact ⟨[], by simp, .nil⟩
  | .tmp t :: rs, ars, hc, vs, hv => by
    simp only [compRes] at hc
    obtain ⟨ars', h1, rfl⟩ := Option.map_eq_some_iff.1 hc
    simp only [resEvs] at hv
    split at hv
    · rename_i v vs' h2 h3
      injection hv with hv
      subst hv
      obtain ⟨cs, e1, e2⟩ := resEvs_sound S h1 h3
      exact ⟨_ :: cs, by simp only [List.mapM_cons, resRun, Sem.run_bind, Sem.run_pure, Result.andThen_ok, e1], .cons _ _ _ _ (S.tm t v h2).2 e2⟩
    · cases hv
  | .cell t ty :: rs, ars, hc, vs, hv => by
    simp only [compRes] at hc
    split at hc
    · rename_i ta r h0 h1
      injection hc with hc
      subst hc
      simp only [resEvs] at hv
      split at hv
      · rename_i v vs' h2 h3
        injection hv with hv
        subst hv
        obtain ⟨cs, e1, e2⟩ := resEvs_sound S h1 h3
        simp only [ARes.ev] at h2
        split at h2
        · rename_i id off hp
          have hvr := (S.tm t _ hp).2
          have hl : ∃ u, (do loadVar ty (← asAddr (a.tmps.getD t undef)) : Sem Value).run P w = .ok u w ∧ VR ρ v u := by
            have hk : compL P (.load ty (.tmp t)) = some ⟨ta.agg, ta.size, .tmp t⟩ := by simp [compL, h0, compO]
            have hload := load_sound (o := .load ty (.tmp t)) hk S.tm S.hp (r := v) (by simp only [LK.ev, AO.ev, hp]; exact h2) ⟨none, .load ty (.tmp t), 0, "", #[], none⟩ rfl
            obtain ⟨u, h4, h5⟩ := hload
            refine ⟨u, ?_, h5⟩
            simp only [execOp, Act.eval] at h4
            generalize a.tmps.getD t undef = vt at hvr h4 ⊢
            cases hvr with
            | ptr _ _ b tt hb =>
              simp only [Instr.loadAt, Instr.sureAddr, Sem.run_bind, Sem.run_pure, Result.andThen_ok] at h4
              simp only [asAddr, Sem.run_bind, Sem.run_pure, Result.andThen_ok]
              cases hx : (loadVar ty ⟨b, off, none⟩).run P w with
              | ok x w1 =>
                rw [hx] at h4
                simp only [Result.andThen_ok] at h4
                injection h4 with h4 h4'
                injection h4 with h4
                rw [h4, h4']
              | halt x w1 =>
                rw [hx] at h4
                simp at h4
          obtain ⟨u, h4, h5⟩ := hl
          refine ⟨u :: cs, ?_, .cons _ _ _ _ h5 e2⟩
          rw [List.mapM_cons, Sem.run_bind]
          simp only [resRun]
          rw [h4]
          simp only [Sem.run_bind, Sem.run_pure, Result.andThen_ok, e1]
        · cases h2
      · cases hv
    · cases hc

theorem res_sound [Glo] {P : Program} {fn : Func} {nt : Nat} {ρ : Ren} {s : St} {a : Act} {w : World} (S : SR ρ s nt a w) {ars : List ARes} (hc : compRes P nt fn.results.toList = some ars) {v : AV} (hv : resA s ars = some v) :
    ∃ c, (results fn a.tmps).run P w = .ok c w ∧ VR ρ v c := by
  unfold resA at hv
  have run : ∀ {cs : List Value}, (fn.results.toList.mapM (resRun a)).run P w = .ok cs w → (results fn a.tmps).run P w = .ok (if h : cs.toArray.size = 1 then cs.toArray[0] else .tuple cs.toArray) w := by
    intro cs h
    unfold results
    rw [Array.mapM_eq_mapM_toList]
    simp only [Sem.run_bind, Sem.run_map]
    have e : (List.mapM (m := Sem) (fun x => match x with
      | .tmp t => pure (a.tmps.getD t undef)
      | .cell a_1 t => do loadVar t (← asAddr (a.tmps.getD a_1 undef))) fn.results.toList).run P w = .ok cs w := h
    exact (congrArg (fun r : Result (List Value) => (r.andThen fun a w' => Result.ok a.toArray w').andThen fun a w' => Sem.run P (pure (if h : a.size = 1 then a[0] else Value.tuple a)) w') h).trans rfl
  split at hv
  · rename_i u h1
    injection hv with hv
    subst hv
    obtain ⟨cs, e1, e2⟩ := resEvs_sound S hc h1
    cases e2 with
    | cons _ c _ _ e es =>
      cases es
      exact ⟨c, by rw [run e1]; rfl, e⟩
  · rename_i vs hne h1
    injection hv with hv
    subst hv
    obtain ⟨cs, e1, e2⟩ := resEvs_sound S hc h1
    have hl := e2.length
    have hcs : cs.length ≠ 1 := fun h => by
      rw [← hl] at h
      obtain ⟨x, hx⟩ := List.length_eq_one_iff.1 h
      subst hx
      exact hne x rfl
    refine ⟨.tuple cs.toArray, ?_, .tup _ _ (by simpa using e2)⟩
    rw [run e1, dif_neg (by simpa using hcs)]
  · cases hv

/-- THE THEOREM. -/
theorem call_step [Glo] {P : Program} {env : Nat → Option AFn} (E : EnvOK P env) (hm : P.follows .mixedOrders = true) (fl : Nat) {call : CallF} (C : CallOK P call) : CallOK P (fun f args h nx =>
    match env f with
    | none => none
    | some fn => match Nat.ble args.length fn.nt with
      | false => none
      | true => match exec call fl fn.body ⟨argsT args 0 .e, h, nx⟩ with
        | some (.nor, s) => match resA s fn.res with
          | some v => some (v, s.hp, s.nx)
          | none => none
        | some (.ret, s) => match resA s fn.res with
          | some v => some (v, s.hp, s.nx)
          | none => none
        | _ => none) := by
    refine ⟨fun f args h nx v h' nx' hr ρ w cargs H F he hA => ?_, C.2⟩
    have hr : (match env f with
      | none => none
      | some fn => match Nat.ble args.length fn.nt with
        | false => none
        | true => match exec call fl fn.body ⟨argsT args 0 .e, h, nx⟩ with
          | some (.nor, s) => match resA s fn.res with
            | some v => some (v, s.hp, s.nx)
            | none => none
          | some (.ret, s) => match resA s fn.res with
            | some v => some (v, s.hp, s.nx)
            | none => none
          | _ => none) = some (v, h', nx') := hr
    split at hr
    · cases hr
    · rename_i af hf
      obtain ⟨fn, h1, h2, h3⟩ := E f af hf
      unfold compFn at h3
      split at h3
      · rename_i c hb
        split at h3
        · rename_i ab ar h4 h5
          injection h3 with h3
          subst h3
          split at hr
          · cases hr
          · rename_i hle
            have hle := Nat.ble_eq.mp hle
            simp only at hle hr
            have hlen := hA.length
            simp only [Array.length_toList] at hlen
            refine ⟨?_, ?_⟩
            · simp only [callFunc, Sem.run_bind, run_program, Result.andThen_ok, h1, h2, hb, Bool.false_eq_true, if_false, Option.isNone_some, Sem.run_pure]
            · have S0 : SR ρ ⟨argsT args 0 .e, h, nx⟩ fn.ntmps ⟨cargs ++ Array.replicate (fn.ntmps - cargs.size) undef, []⟩ w := {
                tm := fun t u hu => by
                  rcases argsT_get hA 0 .e t u hu with ⟨j, c', g1, g2, g3⟩ | g1
                  · have : t = j := by omega
                    subst this
                    have hj : t < cargs.size := by
                      have := (List.getElem?_eq_some_iff.1 g2).1
                      simpa using this
                    refine ⟨by simp; omega, ?_⟩
                    have : (cargs ++ Array.replicate (fn.ntmps - cargs.size) undef).getD t undef = c' := by
                      simp only [Array.getD_eq_getD_getElem?]
                      rw [Array.getElem?_append_left hj]
                      have : cargs[t]? = some c' := by simpa using g2
                      rw [this]
                      rfl
                    simp only
                    rw [this]
                    exact g3
                  · simp [T.get_e] at g1
                hp := H
                fr := F
                ev := he
                sz := by simp; omega }
              have fin : ∀ {out : Out} {s : St}, (out = .nor ∨ out = .ret) → exec call fl ab ⟨argsT args 0 .e, h, nx⟩ = some (out, s) → resA s ar = some v → h' = s.hp → nx' = s.nx →
                  Calls P f cargs w fun e w' => ∃ cv ρ', e = .returned cv ∧ VR ρ' v cv ∧ HR ρ' h'.get w' ∧ Fr ρ' nx' ∧ nx' % 2 = 0 ∧ TR ρ h nx w ρ' h' nx' w' := by
                intro out s ho hex hres e1 e2
                subst e1 e2
                refine calls_of_wp h1 hb (Code.wp_mono (fun e a' w' hq => ?_) (code_sound C hm fl c ab h4 ρ _ s out _ w S0 hex))
                obtain ⟨q1, q2, ρ', q3, q4⟩ := hq
                obtain ⟨cv, r1, r2⟩ := res_sound q3 h5 hres
                rcases ho with rfl | rfl
                · cases e <;> simp only [OutR] at q1
                  exact ⟨q2, cv, r1, cv, ρ', rfl, r2, q3.hp, q3.fr, q3.ev, q4⟩
                · cases e <;> simp only [OutR] at q1
                  exact ⟨q2, cv, r1, cv, ρ', rfl, r2, q3.hp, q3.fr, q3.ev, q4⟩
              split at hr
              · rename_i s hs
                split at hr
                · rename_i v' hv'
                  injection hr with hr
                  injection hr with g1 g2
                  injection g2 with g2 g3
                  subst g1
                  exact fin (.inl rfl) hs hv' g2.symm g3.symm
                · cases hr
              · rename_i s hs
                split at hr
                · rename_i v' hv'
                  injection hr with hr
                  injection hr with g1 g2
                  injection g2 with g2 g3
                  subst g1
                  exact fin (.inr rfl) hs hv' g2.symm g3.symm
                · cases hr
              · cases hr
        · cases h3
      · cases h3

theorem calls_ok [Glo] {P : Program} {env : Nat → Option AFn} (E : EnvOK P env) (hm : P.follows .mixedOrders = true) (fl : Nat) (X : XOK P) : ∀ n, CallOK P (callN env fl n)
  | 0 => ⟨fun f args h nx v h' nx' hr => by simp [callN] at hr, X⟩
  | n + 1 => call_step E hm fl (calls_ok E hm fl X n)

/-! ### 23. A list of functions -/
def envL : List (Nat × AFn) → Nat → Option AFn
  | [], _ => none
  | (g, a) :: l, f => match Nat.beq g f with
    | true => some a
    | false => envL l f
def AllOK (P : Program) : List (Nat × AFn) → Prop
  | [] => True
  | (f, a) :: l => (∃ fn, P.funcs[f]? = some fn ∧ (fn.name == "runtime.NumGoroutine") = false ∧ compFn P fn = some a) ∧ AllOK P l
theorem envL_ok {P : Program} : ∀ {l : List (Nat × AFn)}, AllOK P l → EnvOK P (envL l)
  | [], _ => fun f af h => by simp [envL] at h
  | (g, a) :: l, hl => fun f af h => by
    simp only [envL] at h
    split at h
    · rename_i e
      have e := Nat.eq_of_beq_eq_true e
      subst e
      injection h with h
      subst h
      exact hl.1
    · exact envL_ok hl.2 f af h
/-- A closed call: from nothing told of the heap. -/
theorem closed [Glo] {P : Program} {env : Nat → Option AFn} (E : EnvOK P env) (hm : P.follows .mixedOrders = true) (fl n : Nat) {f : FuncId} {v : AV} {h' : T Blk} {nx' : Nat} (hr : callN env fl n f [] .e 0 = some (v, h', nx')) (w : World) (hL : Low w) (X : XOK P) :
    Calls P f #[] w fun e w' => ∃ cv ρ', e = .returned cv ∧ VR ρ' v cv ∧ HR ρ' h'.get w' ∧ Below w.heap.size w w' ∧ ∀ id, (h'.get id).isSome → ∃ p, ρ' id = some p ∧ w.heap.size ≤ p.1 := by
  have h0 : ∀ id, (T.e : T Blk).get id = none := fun id => rfl
  have H0 : HR (fun _ => none) (T.e : T Blk).get w := {
    at_ := fun id blk h => by rw [h0] at h; cases h
    inj := fun id id' p p' h => by rw [h0] at h; cases h
    lo := fun id p h => by rw [h0] at h; cases h
    low := hL }
  obtain ⟨_, c⟩ := (calls_ok E hm fl X n).1 f [] .e 0 v h' nx' hr (fun _ => none) w #[] H0 (fun _ _ => rfl) rfl .nil
  refine c.mono fun e w' hh => ?_
  obtain ⟨cv, ρ', h1, h2, h3, _, _, h6⟩ := hh
  refine ⟨cv, ρ', h1, h2, h3, h6.frm.below h0, fun id hid => ?_⟩
  obtain ⟨p, h7, h8⟩ := h6.frm.img id hid
  rcases h8 with ⟨id0, p0, h9, _⟩ | h8
  · rw [h0] at h9
    cases h9
  · exact ⟨p, h7, h8⟩
#print axioms closed
end
end Go.Proofs.YtdndcigppbhhdaaDoorAM
