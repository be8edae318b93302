/-
  The interpreter over abstract values: the library's Itoa and TrailingZeros (at 16), by their contracts; their tables are among the blocks that stay.
-/
import Derived.Test.YtdndcigppbhhdaaDoorMPure
import Derived.Test.YtdndcigppbhhdaaDoorMItoa
import Derived.Test.YtdndcigppbhhdaaDoorMTz
namespace Go.Proofs.YtdndcigppbhhdaaDoorAM
open Go.RowKit
set_option linter.unusedSimpArgs false
set_option linter.unusedVariables false
noncomputable section

class TabL [Glo] : Prop where
  pow : ∀ w : World, Low w → Lib.TabIs Tryd.prog w "internal/strconv.uint64pow10" .u64 Lib.pow10Tab
  db : ∀ w : World, Low w → w.cell? ⟨4, 15, none⟩ = some (.int .u8 4)
theorem xok : XOK Tryd.prog := fun x y c hc w => Go.Proofs.YtdndcigppbhhdaaDoorMI.add64 x y c hc w
def tblL (f : Nat) (args : List AV) : Option AV := match args with
  | [.int .i64 n] => match Nat.beq f 47 && (decide (-9223372036854775808 ≤ n) && decide (n ≤ 9223372036854775807)) with
    | true => some (.str ((Lib.itoa n).map UInt8.toNat))
    | false => none
  | [.int .u64 (.ofNat x)] => match Nat.beq f 75 && Nat.beq x 16 with
    | true => some (.int .i64 (.ofNat 4))
    | false => none
  | _ => none
theorem one_arg {ρ : Ren} {a : AV} {cargs : Array Value} (h : VRL ρ [a] cargs.toList) : ∃ v, cargs = #[v] ∧ VR ρ a v := by
  rcases cargs with ⟨l⟩
  simp only at h
  cases h with
  | cons _ b _ bs h1 hs =>
    cases hs
    exact ⟨b, rfl, h1⟩
theorem tblL_ok [Glo] [TabL] : ∀ f args v, tblL f args = some v → PureOK Tryd.prog f args v ∧ args.all AV.plain2 = true := by
  intro f args v h
  unfold tblL at h
  split at h
  · rename_i n
    split at h
    · rename_i hc
      simp only [Bool.and_eq_true, decide_eq_true_eq] at hc
      obtain ⟨c1, c2, c3⟩ := hc
      have c1 := Nat.eq_of_beq_eq_true c1
      subst c1
      injection h with h
      subst h
      refine ⟨⟨rfl, fun w cargs hL hA => ?_⟩, rfl⟩
      obtain ⟨v, rfl, hv⟩ := one_arg hA
      cases hv
      refine ⟨Go.Proofs.YtdndcigppbhhdaaDoorMI.enter47 n w, (Go.Proofs.YtdndcigppbhhdaaDoorMI.itoa n c2 c3 w (TabL.pow w hL)).mono fun e w' hh => ?_⟩
      obtain ⟨rfl, k, os, rfl⟩ := hh
      exact ⟨_, rfl, VR.str ⟨(Lib.itoa n).toArray⟩, Go.Proofs.YtdndcigppbhhdaaDoorMI.below w k os⟩
    · cases h
  · rename_i x
    split at h
    · rename_i hc
      simp only [Bool.and_eq_true] at hc
      have c1 := Nat.eq_of_beq_eq_true hc.1
      have c2 := Nat.eq_of_beq_eq_true hc.2
      subst c1 c2
      injection h with h
      subst h
      refine ⟨⟨rfl, fun w cargs hL hA => ?_⟩, rfl⟩
      obtain ⟨v, rfl, hv⟩ := one_arg hA
      cases hv
      refine ⟨Go.Proofs.YtdndcigppbhhdaaDoorMI.enter75 w, (Go.Proofs.YtdndcigppbhhdaaDoorMTz.tz16 w (TabL.db w hL)).mono fun e w' hh => ?_⟩
      obtain ⟨rfl, rfl⟩ := hh
      exact ⟨_, rfl, .int _ _, Below.refl _ _⟩
    · cases h
  · cases h
/-- Calls over what is known: pure calls by their contracts, summaries. -/
def callL (sm : Nat → Option Sm) (env : Nat → Option AFn) (fl : Nat) (n : Nat) : CallF :=
  Nat.rec (motive := fun _ => CallF) (fun _ _ _ _ => none) (fun _ ih => pureC tblL (known sm (fun f args h nx =>
    match env f with
    | none => none
    | some fn => match Nat.ble args.length fn.nt with
      | false => none
      | true => match exec ih fl fn.body ⟨argsT args 0 .e, h, nx⟩ with
        | some (.nor, s) => match resA s fn.res with
          | some v => some (v, s.hp, s.nx)
          | none => none
        | some (.ret, s) => match resA s fn.res with
          | some v => some (v, s.hp, s.nx)
          | none => none
        | _ => none))) n
theorem callL_ok [Glo] [TabL] {sm : Nat → Option Sm} (S : ∀ f s, sm f = some s → SmOK Tryd.prog f s) {env : Nat → Option AFn} (E : EnvOK Tryd.prog env) (hm : Tryd.prog.follows .mixedOrders = true) (fl : Nat) : ∀ n, CallOK Tryd.prog (callL sm env fl n)
  | 0 => ⟨fun f args h nx v h' nx' hr => by simp [callL] at hr, xok⟩
  | n + 1 => pureC_ok (known_ok (call_step E hm fl (callL_ok S E hm fl n)) S) tblL_ok
#print axioms callL_ok
end
end Go.Proofs.YtdndcigppbhhdaaDoorAM
