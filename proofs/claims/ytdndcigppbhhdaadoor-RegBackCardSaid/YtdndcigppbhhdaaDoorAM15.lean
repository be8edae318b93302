/-
  The interpreter over abstract values: a function's code in pieces. (text 15)
-/
import Derived.Test.YtdndcigppbhhdaaDoorAM14
namespace Go.Proofs.YtdndcigppbhhdaaDoorAM
open Go.RowKit
set_option linter.unusedSimpArgs false
set_option linter.unusedVariables false
noncomputable section

def Tri [Glo] (P : Program) (nt : Nat) (c : Code) (s : St) (out : Out) (s' : St) : Prop := ∀ (ρ : Ren) (a : Act) (w : World), SR ρ s nt a w → c.wp P (PostC ρ s w a.defers nt out s') a w
theorem tri_seq [Glo] {P : Program} {nt : Nat} {x y : Code} {s s1 s' : St} {out : Out} (h1 : Tri P nt x s .nor s1) (h2 : Tri P nt y s1 out s') : Tri P nt (.seq x y) s out s' := by
  intro ρ a w S
  refine wp_seq (Code.wp_mono (fun e a' w' hq => ?_) (h1 ρ a w S))
  obtain ⟨q1, q2, ρ', q3, q4⟩ := hq
  cases e <;> simp only [OutR] at q1
  refine Code.wp_mono (fun e a'' w'' hq => ?_) (h2 ρ' a' w' q3)
  obtain ⟨r1, r2, ρ'', r3, r4⟩ := hq
  exact ⟨r1, r2.trans q2, ρ'', r3, q4.trans r4⟩

def mkT (l : List (Nat × AV)) : T AV := List.rec (motive := fun _ => T AV) .e (fun p _ r => r.put p.1 p.2) l
def mkH (l : List (Nat × Blk)) : T Blk := List.rec (motive := fun _ => T Blk) .e (fun p _ r => r.put p.1 p.2) l
theorem mkT_get : ∀ {l : List (Nat × AV)} {t : Nat} {v : AV}, (mkT l).get t = some v → (t, v) ∈ l
  | [], t, v, h => by
    have : (T.e : T AV).get t = some v := h
    rw [T.get_e] at this
    cases this
  | p :: l, t, v, h => by
    have g : ((mkT l).put p.1 p.2).get t = some v := h
    clear h
    rw [T.get_put] at g
    split at g
    · rename_i e
      injection g with g
      subst e g
      simp
    · simp [mkT_get g]
theorem mkH_get : ∀ {l : List (Nat × Blk)} {t : Nat} {v : Blk}, (mkH l).get t = some v → (t, v) ∈ l
  | [], t, v, h => by
    have : (T.e : T Blk).get t = some v := h
    rw [T.get_e] at this
    cases this
  | p :: l, t, v, h => by
    have g : ((mkH l).put p.1 p.2).get t = some v := h
    clear h
    rw [T.get_put] at g
    split at g
    · rename_i e
      injection g with g
      subst e g
      simp
    · simp [mkH_get g]
structure Sn where
  tl : List (Nat × AV)
  hl : List (Nat × Blk)
  k : Nat
def Sn.st (s : Sn) : St := ⟨mkT s.tl, mkH s.hl, s.k⟩
def chkT (t : T AV) : List (Nat × AV) → Bool
  | [] => true
  | (i, v) :: l => (match t.get i with
    | some v' => AV.same v' v
    | none => false) && chkT t l
theorem chkT_ok [Glo] {t : T AV} : ∀ {l : List (Nat × AV)}, chkT t l = true → ∀ i v, (i, v) ∈ l → t.get i = some v
  | [], _, i, v, h => by simp at h
  | (j, u) :: l, hc, i, v, h => by
    simp only [chkT, Bool.and_eq_true] at hc
    rcases List.mem_cons.1 h with h | h
    · injection h with h1 h2
      subst h1 h2
      have h1 := hc.1
      split at h1
      · rename_i v' hv
        rw [hv, AV.same_eq h1]
      · cases h1
    · exact chkT_ok hc.2 i v h
theorem chkL_mem [Glo] {h : T Blk} : ∀ {l : List (Nat × Blk)}, chkL h l = true → ∀ i b, (i, b) ∈ l → h.get i = some b
  | [], _, i, b, hl => by simp at hl
  | (j, c) :: l, hc, i, b, hl => by
    simp only [chkL, Bool.and_eq_true] at hc
    rcases List.mem_cons.1 hl with hl | hl
    · injection hl with h1 h2
      subst h1 h2
      have h1 := hc.1
      split at h1
      · rename_i b' hb'
        simp only [Bool.and_eq_true] at h1
        have e1 := Nat.eq_of_beq_eq_true h1.1
        have e2 := AV.sames_eq h1.2
        rw [hb']
        cases b'
        cases b
        simp only at e1 e2
        subst e1 e2
        rfl
      · cases h1
    · exact chkL_mem hc.2 i b hl
def chkN (s : Sn) : Option (Out × St) → Bool
  | some (.nor, s') => chkT s'.tm s.tl && chkL s'.hp s.hl && Nat.beq s'.nx s.k
  | _ => false
theorem tri_run [Glo] {P : Program} {call : CallF} (C : CallOK P call) (hm : P.follows .mixedOrders = true) {nt : Nat} (n : Nat) {c : Code} {ac : AC} (hc : compCode P nt c = some ac) {s : St} {s' : Sn} (h : chkN s' (exec call n ac s) = true) : Tri P nt c s .nor s'.st := by
  unfold chkN at h
  split at h
  · rename_i s1 hr
    simp only [Bool.and_eq_true] at h
    obtain ⟨⟨h1, h2⟩, h3⟩ := h
    have h3 := Nat.eq_of_beq_eq_true h3
    intro ρ a w S
    refine Code.wp_mono (fun e a' w' hq => ?_) (code_sound C hm n c ac hc ρ s s1 .nor a w S hr)
    obtain ⟨q1, q2, ρ', q3, q4⟩ := hq
    have hh : ∀ id b, s'.st.hp.get id = some b → s1.hp.get id = some b := fun id b e => chkL_mem h2 id b (mkH_get e)
    exact ⟨q1, q2, ρ', ⟨fun t v e => q3.tm t v (chkT_ok h1 t v (mkT_get e)), q3.hp.less hh, by show Fr ρ' s'.k; rw [← h3]; exact q3.fr, by show s'.k % 2 = 0; rw [← h3]; exact q3.ev, q3.sz⟩,
      ⟨q4.ag, q4.frm.less hh, by show _ ≤ s'.k; rw [← h3]; exact q4.le⟩⟩
  · cases h
theorem tri_end [Glo] {P : Program} {call : CallF} (C : CallOK P call) (hm : P.follows .mixedOrders = true) {nt : Nat} (n : Nat) {c : Code} {ac : AC} (hc : compCode P nt c = some ac) {s s' : St} {out : Out} (h : exec call n ac s = some (out, s')) : Tri P nt c s out s' :=
  fun ρ a w S => code_sound C hm n c ac hc ρ s s' out a w S h

def seqL : Code → Code
  | .seq a _ => a
  | c => c
def seqR : Code → Code
  | .seq _ b => b
  | c => c
/-- A function without parameters that returns true, its body told in pieces. -/
theorem tri_true [Glo] {P : Program} {f : FuncId} {fn : Func} {c : Code} (h1 : P.funcs[f]? = some fn) (hb : fn.body = some c) {s' : St} {out : Out} (ho : out = .nor ∨ out = .ret) (h : Tri P fn.ntmps c ⟨.e, .e, 0⟩ out s')
    {ars : List ARes} (h5 : compRes P fn.ntmps fn.results.toList = some ars) (hres : resA s' ars = some (.bool true)) (w : World) (hL : Low w) : Calls P f #[] w fun e w' => e = .returned (.bool true) ∧ Below w.heap.size w w' := by
  have h0 : ∀ id, (T.e : T Blk).get id = none := fun id => rfl
  have S0 : SR (fun _ => none) ⟨.e, .e, 0⟩ fn.ntmps ⟨#[] ++ Array.replicate (fn.ntmps - (#[] : Array Value).size) undef, []⟩ w := {
    tm := fun t u hu => by
      have : (T.e : T AV).get t = some u := hu
      rw [T.get_e] at this
      cases this
    hp := {
      at_ := fun id blk h => by rw [h0] at h; cases h
      inj := fun id id' p p' h => by rw [h0] at h; cases h
      lo := fun id p h => by rw [h0] at h; cases h
      low := hL }
    fr := fun _ _ => rfl
    ev := rfl
    sz := by simp }
  refine calls_of_wp h1 hb (Code.wp_mono (fun e a' w' hq => ?_) (h _ _ w S0))
  obtain ⟨q1, q2, ρ', q3, q4⟩ := hq
  obtain ⟨cv, r1, r2⟩ := res_sound q3 h5 hres
  cases r2
  have bel := q4.frm.below h0
  rcases ho with rfl | rfl
  · cases e <;> simp only [OutR] at q1
    exact ⟨q2, _, r1, rfl, bel⟩
  · cases e <;> simp only [OutR] at q1
    exact ⟨q2, _, r1, rfl, bel⟩
/-- The same out of a summary. -/
theorem sm_true [Glo] {P : Program} {f : FuncId} {s : Sm} (h : SmOK P f s) (hv : s.v = .bool true) (w : World) (hL : Low w) : Calls P f #[] w fun e w' => e = .returned (.bool true) ∧ Below w.heap.size w w' := by
  refine (h.calls w hL).mono fun e w' hh => ?_
  obtain ⟨cv, ρ', rfl, h1, _, _, h4, _⟩ := hh
  rw [hv] at h1
  cases h1
  exact ⟨rfl, h4⟩
end
end Go.Proofs.YtdndcigppbhhdaaDoorAM
