/-
  The interpreter over abstract values: calls that hand back no pointer, out of a table; code in pieces whose last state is told less of; a number told by cases.
-/
import Derived.Test.YtdndcigppbhhdaaDoorMFields
namespace Go.Proofs.YtdndcigppbhhdaaDoorAM
open Go.RowKit
set_option linter.unusedSimpArgs false
set_option linter.unusedVariables false
noncomputable section

def AV.plain : AV → Bool
  | .int _ _ | .bool _ | .str _ | .num _ => true
  | _ => false
def AV.plain2 : AV → Bool
  | .agg l => l.all AV.plain
  | a => a.plain
theorem VR.plain {ρ ρ' : Ren} {a : AV} {v : Value} (h : VR ρ a v) (hp : a.plain = true) : VR ρ' a v := by
  cases h with
  | num q x h => exact .num q x h
  | int k n => exact .int k n
  | bool b => exact .bool b
  | str s => exact .str s
  | _ => simp [AV.plain] at hp
theorem VRL.plain {ρ ρ' : Ren} : ∀ {aa : List AV} {vs : List Value}, VRL ρ aa vs → aa.all AV.plain = true → VRL ρ' aa vs
  | _, _, .nil, _ => .nil
  | _, _, .cons a b aa bs e es, hp => by
    simp only [List.all_cons, Bool.and_eq_true] at hp
    exact .cons _ _ _ _ (e.plain hp.1) (VRL.plain es hp.2)
theorem VR.plain2 {ρ ρ' : Ren} {a : AV} {v : Value} (h : VR ρ a v) (hp : a.plain2 = true) : VR ρ' a v := by
  cases h with
  | agg aa bs hs => exact .agg _ _ (hs.plain hp)
  | num q x h => exact .num q x h
  | int k n => exact .int k n
  | bool b => exact .bool b
  | str s => exact .str s
  | _ => simp [AV.plain2, AV.plain] at hp
theorem VRL.plain2 {ρ ρ' : Ren} : ∀ {aa : List AV} {vs : List Value}, VRL ρ aa vs → aa.all AV.plain2 = true → VRL ρ' aa vs
  | _, _, .nil, _ => .nil
  | _, _, .cons a b aa bs e es, hp => by
    simp only [List.all_cons, Bool.and_eq_true] at hp
    exact .cons _ _ _ _ (e.plain2 hp.1) (VRL.plain2 es hp.2)
def pureRun (v : AV) : Option (AV × T Blk × Nat) → Bool
  | some (u, _, _) => AV.same u v && v.plain
  | none => false
structure PureOK [Glo] (P : Program) (f : Nat) (args : List AV) (v : AV) : Prop where
  plain : v.plain = true
  calls : ∀ (w : World) (cargs : Array Value), Low w → VRL (fun _ => none) args cargs.toList →
    (callFunc f cargs).run P w = .ok (.enter f cargs) w ∧ Calls P f cargs w fun e w' => ∃ cv, e = .returned cv ∧ VR (fun _ => none) v cv ∧ Below w.heap.size w w'
theorem pure_of [Glo] {P : Program} {call : CallF} (C : CallOK P call) {f : Nat} {args : List AV} {v : AV} (h : pureRun v (call f args .e 0) = true) : PureOK P f args v := by
  unfold pureRun at h
  split at h
  · rename_i u h' nx' hr
    simp only [Bool.and_eq_true] at h
    obtain ⟨h1, h2⟩ := h
    have h1 := AV.same_eq h1
    subst h1
    refine ⟨h2, fun w cargs hL hA => ?_⟩
    have h0 : ∀ id, (T.e : T Blk).get id = none := fun id => rfl
    have H0 : HR (fun _ => none) (T.e : T Blk).get w := {
      at_ := fun id blk h => by rw [h0] at h; cases h
      inj := fun id id' p p' h => by (rw [h0] at h; cases h), lo := fun id p h => by (rw [h0] at h; cases h), low := hL }
    obtain ⟨c1, c2⟩ := C.1 f args .e 0 _ h' nx' hr (fun _ => none) w cargs H0 (fun _ _ => rfl) rfl hA
    refine ⟨c1, c2.mono fun e w' hh => ?_⟩
    obtain ⟨cv, ρ', e1, e2, e3, _, _, e6⟩ := hh
    exact ⟨cv, e1, e2.plain h2, e6.frm.below h0⟩
  · cases h
def pureC (tbl : Nat → List AV → Option AV) (call : CallF) : CallF := fun f args h nx => match tbl f args with
  | some v => some (v, h, nx)
  | none => call f args h nx
theorem pureC_ok [Glo] {P : Program} {call : CallF} (C : CallOK P call) {tbl : Nat → List AV → Option AV} (ht : ∀ f args v, tbl f args = some v → PureOK P f args v ∧ args.all AV.plain2 = true) : CallOK P (pureC tbl call) := by
  refine ⟨?_, C.2⟩
  intro f args h nx v h' nx' hr ρ w cargs H F he hA
  unfold pureC at hr
  split at hr
  · rename_i u hu
    injection hr with hr
    injection hr with e1 e2
    injection e2 with e2 e3
    subst e1 e2 e3
    obtain ⟨p, hp⟩ := ht f args u hu
    obtain ⟨c1, c2⟩ := p.calls w cargs H.low (hA.plain2 hp)
    refine ⟨c1, c2.mono fun e w' hh => ?_⟩
    obtain ⟨cv, rfl, g1, bel⟩ := hh
    refine ⟨cv, ρ, rfl, g1.plain p.plain, ⟨fun id blk e => ?_, H.inj, H.lo, ⟨Nat.le_trans H.low.1 bel.size, fun b hb => (bel.block b (Nat.lt_of_lt_of_le hb H.low.1)).trans (H.low.2 b hb)⟩⟩, F, he, Ag.refl _ _,
      ⟨bel.os, bel.tape, bel.output, bel.size, fun b hb _ => bel.block b hb, fun id hid => ?_⟩, Nat.le_refl _⟩
    · obtain ⟨b, c, k1, k2, k3⟩ := H.at_ id blk e
      exact ⟨b, c, k1, by rw [bel.block b (Array.getElem?_eq_some_iff.1 k2).1]; exact k2, k3⟩
    · obtain ⟨q, hq⟩ := H.known hid
      exact ⟨q, hq, .inl ⟨id, q, hid, hq, rfl⟩⟩
  · exact C.1 f args h nx v h' nx' hr ρ w cargs H F he hA

/-- Calls over what is known: a table of pure calls, summaries, Fields. -/
def callP (tbl : Nat → List AV → Option AV) (sm : Nat → Option Sm) (env : Nat → Option AFn) (fl : Nat) (n : Nat) : CallF :=
  Nat.rec (motive := fun _ => CallF) (fun _ _ _ _ => none) (fun _ ih => pureC tbl (fieldsC 55 9 (known sm (fun f args h nx =>
    match env f with
    | none => none
    | some fn => match Nat.ble args.length fn.nt with
      | false => none
      | true => match exec ih fl fn.body ⟨argsT args 0 .e, h, nx⟩ with
        | some (.nor, s) => match resA s fn.res with
          | some v => some (v, s.hp, s.nx)
          | none => none
        | some (.ret, s) => match resA s fn.res with
          | some v => some (v, s.hp, s.nx)
          | none => none
        | _ => none)))) n
theorem callP_ok [Glo] [Tab] {tbl : Nat → List AV → Option AV} (ht : ∀ f args v, tbl f args = some v → PureOK Tryd.prog f args v ∧ args.all AV.plain2 = true) {sm : Nat → Option Sm} (S : ∀ f s, sm f = some s → SmOK Tryd.prog f s) {env : Nat → Option AFn} (E : EnvOK Tryd.prog env) (hm : Tryd.prog.follows .mixedOrders = true) (fl : Nat) (X : XOK Tryd.prog) : ∀ n, CallOK Tryd.prog (callP tbl sm env fl n)
  | 0 => ⟨fun f args h nx v h' nx' hr => by simp [callP] at hr, X⟩
  | n + 1 => pureC_ok (fieldsC_ok (known_ok (call_step E hm fl (callP_ok ht S E hm fl X n)) S)) ht

/-! Pieces, one behind the other. -/
def runs (call : CallF) (n : Nat) : List AC → St → Option St
  | [], s => some s
  | a :: aa, s => match exec call n a s with
    | some (.nor, s') => runs call n aa s'
    | _ => none
def seqs : List Code → Code → Code
  | [], c => c
  | p :: ps, c => .seq p (seqs ps c)
def CompAll (P : Program) (nt : Nat) : List Code → List AC → Prop
  | [], [] => True
  | p :: ps, a :: aa => compCode P nt p = some a ∧ CompAll P nt ps aa
  | _, _ => False
theorem fin_runs [Glo] {P : Program} {call : CallF} (C : CallOK P call) (hm : P.follows .mixedOrders = true) {nt : Nat} {ars : List ARes} (n : Nat) {c : Code} : ∀ {ps : List Code} {aa : List AC} {s s' : St}, CompAll P nt ps aa → runs call n aa s = some s' → Fin P nt ars c s' → Fin P nt ars (seqs ps c) s
  | [], [], s, s', _, h, hf => by
    simp only [runs, Option.some.injEq] at h
    subst h
    exact hf
  | p :: ps, a :: aa, s, s', hc, h, hf => by
    simp only [runs] at h
    split at h
    · rename_i s1 h1
      exact fin_seq (tri_end C hm n hc.1 h1) (fin_runs C hm n hc.2 h hf)
    · cases h
  | [], _ :: _, _, _, hc, _, _ => False.elim hc
  | _ :: _, [], _, _, hc, _, _ => False.elim hc
def chkSn (sn : Sn) (s : St) : Bool := chkT s.tm sn.tl && (chkL s.hp sn.hl && (Nat.ble s.nx sn.k && Nat.beq (sn.k % 2) 0))
def chkR (sn : Sn) : Option St → Bool
  | some s => chkSn sn s
  | none => false
theorem fin_less [Glo] {P : Program} {nt : Nat} {ars : List ARes} {c : Code} {sn : Sn} {s : St} (h : chkSn sn s = true) (hf : Fin P nt ars c sn.st) : Fin P nt ars c s := by
  simp only [chkSn, Bool.and_eq_true] at h
  obtain ⟨h1, h2, h3, h4⟩ := h
  have h3 := Nat.ble_eq.mp h3
  have h4 := Nat.eq_of_beq_eq_true h4
  have hh : ∀ id b, sn.st.hp.get id = some b → s.hp.get id = some b := fun id b e => chkL_mem h2 id b (mkH_get e)
  intro ρ a w S
  have S' : SR ρ sn.st nt a w := ⟨fun t v e => S.tm t v (chkT_ok h1 t v (mkT_get e)), S.hp.less hh, fun id hid => S.fr id (Nat.le_trans h3 hid), h4, S.sz⟩
  refine Code.wp_mono (fun e a' w' hq => ?_) (hf ρ a w S')
  obtain ⟨r1, r2, ρ', s', r3, r4, r5⟩ := hq
  exact ⟨r1, r2, ρ', s', r3, r4, ⟨fun id hid => r5.ag id (Nat.lt_of_lt_of_le hid h3), r5.frm.more hh, Nat.le_trans h3 r5.le⟩⟩
theorem fin_chkR [Glo] {P : Program} {call : CallF} (C : CallOK P call) (hm : P.follows .mixedOrders = true) {nt : Nat} {ars : List ARes} (n : Nat) {c : Code} {ps : List Code} {aa : List AC} {s : St} {sn : Sn} (hc : CompAll P nt ps aa) (h : chkR sn (runs call n aa s) = true) (hf : Fin P nt ars c sn.st) : Fin P nt ars (seqs ps c) s := by
  unfold chkR at h
  split at h
  · rename_i s' hs
    exact fin_runs C hm n hc hs (fin_less h hf)
  · cases h
/-- A whole number, not known, told by cases. -/
theorem fin_ref [Glo] {P : Program} {nt : Nat} {ars : List ARes} {c : Code} {s : St} (t n : Nat) (cs : Nat → AV) (ht : s.tm.get t = some (.num (.pk 1 0))) (hc : ∀ x : Int, -9223372036854775808 ≤ x → x ≤ 9223372036854775807 → ∃ i, i < n ∧ ∀ ρ, VR ρ (cs i) (.int .i64 x)) (h : ∀ i, i < n → Fin P nt ars c ⟨s.tm.put t (cs i), s.hp, s.nx⟩) : Fin P nt ars c s := by
  intro ρ a w S
  obtain ⟨u1, u2⟩ := S.tm t _ ht
  have key : ∃ i, i < n ∧ VR ρ (cs i) (a.tmps.getD t undef) := by
    generalize a.tmps.getD t undef = u at u2
    cases u2 with
    | num q x hq =>
      obtain ⟨_, _, h1, h2⟩ := hq
      obtain ⟨i, hi, hv⟩ := hc x h1 h2
      exact ⟨i, hi, hv ρ⟩
  obtain ⟨i, hi, hv⟩ := key
  exact h i hi ρ a w ⟨fun t' v hv' => by
    rw [T.get_put] at hv'
    split at hv'
    · rename_i e
      injection hv' with hv'
      subst e hv'
      exact ⟨u1, hv⟩
    · exact S.tm t' v hv', S.hp, S.fr, S.ev, S.sz⟩
#print axioms fin_chkR
#print axioms callP_ok
end
end Go.Proofs.YtdndcigppbhhdaaDoorAM
