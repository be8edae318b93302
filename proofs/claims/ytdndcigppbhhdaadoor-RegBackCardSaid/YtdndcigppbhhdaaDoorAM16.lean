/-
  The interpreter over abstract values: calls with arguments that are not wholly known; a number's class by a divisor (the kit's Pick); many runs at once; a summary out of pieces. (text 16)
-/
import Derived.Test.YtdndcigppbhhdaaDoorAM15
namespace Go.Proofs.YtdndcigppbhhdaaDoorAM
open Go.RowKit
set_option linter.unusedSimpArgs false
set_option linter.unusedVariables false
noncomputable section

/-! ### 28. The call of Pick -/
/-- Function fp is Pick: what its calls come to. -/
structure PickOK (P : Program) (fp : FuncId) : Prop where
  enter : ∀ (x n : Int) (w : World), (callFunc fp #[.int .i64 x, .int .i64 n]).run P w = .ok (.enter fp #[.int .i64 x, .int .i64 n]) w
  calls : ∀ (x n : Int), 1 ≤ n → n ≤ 1000000 → ∀ w : World, Calls P fp #[.int .i64 x, .int .i64 n] w fun e w' => e = .returned (.int .i64 (x % n)) ∧ w' = w
def pickC (fp : Nat) (call : CallF) : CallF := fun f args h nx =>
  match args with
  | [.num (.pk n k), .int .i64 (.ofNat m)] => match Nat.beq f fp && Nat.beq m n && Nat.ble n 1000000 with
    | true => some (.int .i64 (.ofNat k), h, nx)
    | false => call f args h nx
  | args => call f args h nx
theorem pickC_ok [Glo] {P : Program} {fp : Nat} (K : PickOK P fp) {call : CallF} (C : CallOK P call) : CallOK P (pickC fp call) := by
  refine ⟨?_, C.2⟩
  intro f args h nx v h' nx' hr ρ w cargs H F he hA
  unfold pickC at hr
  split at hr
  · rename_i n k m
    split at hr
    · rename_i hc
      simp only [Bool.and_eq_true] at hc
      obtain ⟨⟨c1, c2⟩, c3⟩ := hc
      have c1 := Nat.eq_of_beq_eq_true c1
      have c2 := Nat.eq_of_beq_eq_true c2
      have c3 := Nat.ble_eq.mp c3
      subst c1 c2
      injection hr with hr
      injection hr with e1 e2
      injection e2 with e2 e3
      subst e1 e2 e3
      rcases cargs with ⟨l⟩
      simp only at hA
      cases hA with
      | cons _ b1 _ bs1 h1 hs1 =>
        cases hs1 with
        | cons _ b2 _ bs2 h2 hs2 =>
          cases hs2
          cases h2
          cases h1 with
          | num q x hq =>
            obtain ⟨q1, q2, q3, q4⟩ := hq
            refine ⟨K.enter x _ w, (K.calls x (Int.ofNat m) (by show (1 : Int) ≤ (m : Int); omega) (by show (m : Int) ≤ 1000000; omega) w).mono fun e w' hh => ?_⟩
            obtain ⟨rfl, rfl⟩ := hh
            refine ⟨_, ρ, rfl, ?_, H, F, he, TR.same H⟩
            have : x % (Int.ofNat m) = Int.ofNat k := q2
            rw [this]
            exact .int _ _
    · exact C.1 f _ h nx v h' nx' hr ρ w cargs H F he hA
  · exact C.1 f _ h nx v h' nx' hr ρ w cargs H F he hA

def callK (fp : Nat) (sm : Nat → Option Sm) (env : Nat → Option AFn) (fl : Nat) (n : Nat) : CallF :=
  Nat.rec (motive := fun _ => CallF) (fun _ _ _ _ => none) (fun _ ih => pickC fp (known sm (fun f args h nx =>
    match env f with
    | none => none
    | some fn => match Nat.ble args.length fn.nt with
      | false => none
      | true => match exec ih fl fn.body ⟨argsT args 0 .e, h, nx⟩ with
        | some (.nor, s) => match resA s fn.res with
          | some v => some (v, s.hp, s.nx)
          | none => none
        | some (.ret, s) => match resA s fn.res with
          | some v => some (v, s.hp, s.nx)
          | none => none
        | _ => none))) n
theorem callK_ok [Glo] {P : Program} {fp : Nat} (K : PickOK P fp) {sm : Nat → Option Sm} (S : ∀ f s, sm f = some s → SmOK P f s) {env : Nat → Option AFn} (E : EnvOK P env) (hm : P.follows .mixedOrders = true) (fl : Nat) (X : XOK P) : ∀ n, CallOK P (callK fp sm env fl n)
  | 0 => ⟨fun f args h nx v h' nx' hr => by simp [callK] at hr, X⟩
  | n + 1 => pickC_ok K (known_ok (call_step E hm fl (callK_ok K S E hm fl X n)) S)

/-! ### 29. A call that returns true -/
def good : Option (AV × T Blk × Nat) → Bool
  | some (.bool b, _, _) => b
  | _ => false
theorem run_true [Glo] {P : Program} {call : CallF} (C : CallOK P call) {f : FuncId} {args : List AV} (h : good (call f args .e 0) = true) (w : World) (hL : Low w) (cargs : Array Value) (hA : VRL (fun _ => none) args cargs.toList) :
    Calls P f cargs w fun e w' => e = .returned (.bool true) ∧ Below w.heap.size w w' := by
  unfold good at h
  split at h
  · rename_i b h' nx' hr
    subst h
    have h0 : ∀ id, (T.e : T Blk).get id = none := fun id => rfl
    have H0 : HR (fun _ => none) (T.e : T Blk).get w := {
      at_ := fun id blk h => by rw [h0] at h; cases h
      inj := fun id id' p p' h => by (rw [h0] at h; cases h), lo := fun id p h => by (rw [h0] at h; cases h), low := hL }
    obtain ⟨_, c⟩ := C.1 f args .e 0 _ h' nx' hr (fun _ => none) w cargs H0 (fun _ _ => rfl) rfl hA
    refine c.mono fun e w' hh => ?_
    obtain ⟨cv, ρ', h1, h2, h3, _, _, h6⟩ := hh
    cases h2
    exact ⟨h1, h6.frm.below h0⟩
  · cases h
def all1 (f : Nat → Bool) (lo k : Nat) : Bool := Nat.rec (motive := fun _ => Bool) true (fun i r => f (lo + i) && r) k
theorem all1_ok {f : Nat → Bool} {lo : Nat} : ∀ {k : Nat}, all1 f lo k = true → ∀ i, lo ≤ i → i < lo + k → f i = true
  | 0, _, i, h1, h2 => absurd h2 (by omega)
  | k + 1, h, i, h1, h2 => by
    have h : (f (lo + k) && all1 f lo k) = true := h
    simp only [Bool.and_eq_true] at h
    by_cases e : i = lo + k
    · rw [e]
      exact h.1
    · exact all1_ok h.2 i h1 (by omega)
theorem pk_ok {x : Int} (n : Nat) (hn : 0 < n) (hx : (Lit.int .i64 x).wf = true) : ∃ k, k < n ∧ Num.ok (.pk n k) x := by
  have h1 := Int.emod_nonneg x (show (n : Int) ≠ 0 by omega)
  have h2 := Int.emod_lt_of_pos x (show 0 < (n : Int) by omega)
  have hx : -9223372036854775808 ≤ x ∧ x ≤ 9223372036854775807 := by
    simp only [Lit.wf, IntKind.min, IntKind.max, IntKind.signed, IntKind.bits, Bool.and_eq_true, decide_eq_true_eq, if_true] at hx
    omega
  exact ⟨(x % (n : Int)).toNat, by omega, hn, by omega, hx.1, hx.2⟩

/-! ### 30. A summary out of pieces -/
theorem tri_sm [Glo] {P : Program} {f : FuncId} {fn : Func} {c : Code} (h1 : P.funcs[f]? = some fn) (h2 : (fn.name == "runtime.NumGoroutine") = false) (hb : fn.body = some c) {s' : St} {out : Out} (ho : out = .nor ∨ out = .ret) (h : Tri P fn.ntmps c ⟨.e, .e, 0⟩ out s')
    {ars : List ARes} (h5 : compRes P fn.ntmps fn.results.toList = some ars) {s : Sm} (hs : chkS s ((resA s' ars).map fun v => (v, s'.hp, s'.nx)) = true) : SmOK P f s := by
  unfold chkS at hs
  split at hs
  · rename_i v hp k hr
    rw [Option.map_eq_some_iff] at hr
    obtain ⟨v', hres, hr⟩ := hr
    injection hr with e1 e2
    injection e2 with e2 e3
    subst e1 e2 e3
    simp only [Bool.and_eq_true] at hs
    obtain ⟨⟨⟨g1, g2⟩, g3⟩, g4⟩ := hs
    have g1 := AV.same_eq g1
    have g2 := Nat.eq_of_beq_eq_true g2
    have hlook := chkL_ok g3
    refine ⟨g4, fun w hL => ?_, fun w hL => ?_⟩
    · simp only [callFunc, Sem.run_bind, run_program, Result.andThen_ok, h1, h2, hb, Bool.false_eq_true, if_false, Option.isNone_some, Sem.run_pure]
    have h0 : ∀ id, (T.e : T Blk).get id = none := fun id => rfl
    have S0 : SR (fun _ => none) ⟨.e, .e, 0⟩ fn.ntmps ⟨#[] ++ Array.replicate (fn.ntmps - (#[] : Array Value).size) undef, []⟩ w := {
      tm := fun t u hu => by
        have : (T.e : T AV).get t = some u := hu
        rw [T.get_e] at this
        cases this
      hp := {
        at_ := fun id blk h => by rw [h0] at h; cases h
        inj := fun id id' p p' h => by (rw [h0] at h; cases h), lo := fun id p h => by (rw [h0] at h; cases h), low := hL }
      fr := fun _ _ => rfl
      ev := rfl
      sz := by simp }
    refine calls_of_wp h1 hb (Code.wp_mono (fun e a' w' hq => ?_) (h _ _ w S0))
    obtain ⟨q1, q2, ρ', q3, q4⟩ := hq
    obtain ⟨cv, r1, r2⟩ := res_sound q3 h5 hres
    have bel := q4.frm.below h0
    have himg : ∀ id, (look s.l id).isSome → ∃ p, ρ' id = some p ∧ w.heap.size ≤ p.1 := fun id hid => by
      obtain ⟨b, hb⟩ := Option.isSome_iff_exists.1 hid
      obtain ⟨p, h7, h8⟩ := q4.frm.img id (by rw [hlook id b hb]; rfl)
      rcases h8 with ⟨id0, p0, h9, _⟩ | h8
      · rw [h0] at h9
        cases h9
      · exact ⟨p, h7, h8⟩
    rcases ho with rfl | rfl
    · cases e <;> simp only [OutR] at q1
      exact ⟨q2, _, r1, cv, ρ', rfl, by rw [← g1]; exact r2, q3.hp.less hlook, by rw [← g2]; exact q3.fr, bel, himg⟩
    · cases e <;> simp only [OutR] at q1
      exact ⟨q2, _, r1, cv, ρ', rfl, by rw [← g1]; exact r2, q3.hp.less hlook, by rw [← g2]; exact q3.fr, bel, himg⟩
  · cases hs
#print axioms tri_sm
#print axioms callK_ok
#print axioms run_true
end
end Go.Proofs.YtdndcigppbhhdaaDoorAM
