/-
  The law LiteralBack: whatever the input, the call returns true, and each argument reads as it did; the tables that it reads stand as the program's text lays them (the tied card).
-/
import Derived.Test.YtdndcigppbhhdaaDoorRows
import Derived.Test.YtdndcigppbhhdaaDoorTie
import Derived.Test.YtdndcigppbhhdaaDoorCards
import Derived.Test.YtdndcigppbhhdaaDoorMDec
import Derived.Test.YtdndcigppbhhdaaDoorPureLiteralBack
import Derived.WalkKit
import Derived.ProofKit
import Derived.OpenShut
import Derived.ShutString
import Derived.ChangeOld
import Derived.Below
import Derived.SizedLaws
import Derived.LaidMore
import Derived.LaidLaws
import Derived.Stop.Joined
import Derived.Stop.LaidErr
import Derived.Lib.LaidTab
import Derived.SevenTiedAt
import Derived.ChangeSame
import Derived.ChangeVars
import Derived.JoinedOf
import Derived.MakeChecks
import Derived.Deep.DeepLaidRun
import Derived.Lib.SmallJoins
namespace Go.Proofs.YtdndcigppbhhdaaDoor.literalBack
open Go.ChangeShapes Go.WideShapes Go.ChangeAt Go.RowKit
open Go.ChangeMaps (open_string shut_string)
set_option linter.unusedVariables false
theorem own : ownKnob Tryd.prog.godebug = none := by kernel_rfl
theorem met (os : Os) (args : Array Value) : laidMetH Tryd.prog Rows.literalBackRow.laid ((World.doorLaid Tryd.prog 3000 os).forCall (fun _ _ => 0) ⟨#[], args, []⟩).memory := by
  rw [MakeChecks.laidMetH_plain _ _ _ (by kernel_rfl)]
  exact laidMet_of_run3 12 (by kernel_rfl) (by kernel_rfl) (by kernel_rfl)
theorem hg2 : Tryd.prog.globalNamed "internal/strconv.uint64pow10" = some 2 := by kernel_rfl
theorem hg4 : Tryd.prog.globalNamed "math/bits.deBruijn64tab" = some 4 := by kernel_rfl
def db64 : List Int := [0, 1, 56, 2, 57, 49, 28, 3, 61, 58, 42, 50, 38, 29, 17, 4, 62, 47, 59, 36, 45, 43, 51, 22, 53, 39, 33, 30, 24, 18, 12, 5, 63, 55, 48, 27, 60, 41, 37, 16, 46, 35, 44, 21, 52, 32, 23, 11, 54, 26, 40, 15, 34, 20, 31, 10, 25, 14, 19, 9, 13, 8, 7, 6]
theorem tabs {W : World} (h : laidMetH Tryd.prog Rows.literalBackRow.laid W) : Lib.TabIs Tryd.prog W "internal/strconv.uint64pow10" .u64 Lib.pow10Tab ∧ W.cell? ⟨4, 15, none⟩ = some (.int .u8 4) := by
  rw [MakeChecks.laidMetH_plain _ _ _ (by kernel_rfl)] at h
  have h1 : laidMet Tryd.prog (Rows.literalBackRow.laid.drop 1) W := laidMet.tail h
  have h2 : laidMet Tryd.prog (Rows.literalBackRow.laid.drop 2) W := laidMet.tail h1
  have e1 : Rows.literalBackRow.laid.drop 1 = ("math/bits.deBruijn64tab", Lib.tabData .u8 db64) :: Rows.literalBackRow.laid.drop 2 := by kernel_rfl
  have e2 : Rows.literalBackRow.laid.drop 2 = [("internal/strconv.uint64pow10", Lib.tabData .u64 Lib.pow10Tab)] := by kernel_rfl
  rw [e1] at h1
  rw [e2] at h2
  refine ⟨Lib.tabIs_of_head hg2 (by kernel_rfl) Tryd.underlying87 Tryd.underlying57 (by kernel_rfl) (by kernel_rfl) h2, ?_⟩
  have t4 := Lib.tabIs_of_head hg4 (by kernel_rfl) Tryd.underlying105 Tryd.underlying5 (by kernel_rfl) (by kernel_rfl) h1
  exact t4.cell hg4 15 (by decide)
theorem tabOf (W : World) (h : laidMetH Tryd.prog Rows.literalBackRow.laid W) : @Go.Proofs.YtdndcigppbhhdaaDoorAM.TabL (Go.Proofs.YtdndcigppbhhdaaDoorAM.gloOf W) := by
  obtain ⟨h1, h2⟩ := tabs h
  refine @Go.Proofs.YtdndcigppbhhdaaDoorAM.TabL.mk (Go.Proofs.YtdndcigppbhhdaaDoorAM.gloOf W) (fun w hL => ?_) (fun w hL => ?_)
  · unfold Lib.TabIs World.var? at h1 ⊢
    rw [hg2] at h1 ⊢
    simp only [Option.bind_some] at h1 ⊢
    have hlt : 2 < W.heap.size := by
      rcases Nat.lt_or_ge 2 W.heap.size with h0 | h0
      · exact h0
      · rw [Array.getElem?_eq_none h0] at h1
        simp at h1
    rw [hL.2 2 hlt]
    exact h1
  · have hlt : 4 < W.heap.size := by
      rcases Nat.lt_or_ge 4 W.heap.size with h0 | h0
      · exact h0
      · simp [World.cell?, Array.getElem?_eq_none h0] at h2
    have e := hL.2 4 hlt
    have : w.cell? ⟨4, 15, none⟩ = W.cell? ⟨4, 15, none⟩ := by
      unfold World.cell?
      simp only
      rw [show w.heap[4]? = W.heap[4]? from e]
    rw [this]
    exact h2
set_option maxRecDepth 100000 in
theorem lifted (os : Os) (started : os.Started) (H : Type) (enc : TypeId × Value → H) :
    ReturnsInHanded {} Tryd.checked os 7 .any (fun w args => (Rows.literalBackSpec.pre enc Tryd.prog Tryd.f7 [] false w args ∧ laidMetH Tryd.prog Rows.literalBackRow.laid w) ∧ sizedMet enc Tryd.prog Tryd.f7 (OpenSpec.ofChange Rows.literalBackSpec) false w args)
      (Rows.literalBackSpec.post enc Tryd.prog Tryd.f7 false true false false) := by
  refine returnsInHanded_of_change_and (C := Tryd.checked) (X := fun w _ => laidMetH Tryd.prog Rows.literalBackRow.laid w) (fun _ _ _ hh h => h.of_heap hh) own started (by kernel_rfl) Tryd.func7
    (ChangeSpec.witness_shaped (enc := enc) (C := Tryd.checked) (os := os) (X := fun w _ => laidMetH Tryd.prog Rows.literalBackRow.laid w) false (World.doorLaid Tryd.prog 3000 os) #[.int .i64 0, .string ByteArray.empty, .int .u8 0] 8 rfl (World.shaped_of_RefB (by kernel_rfl) (by kernel_rfl)) (by kernel_rfl) (by kernel_rfl) (by kernel_rfl) (met os _)) ?_
  intro W base args ds gs before hval0 hW _ hsz0 hL _
  have hsz : (DataW.weightsEach Tryd.prog (Tryd.f7.params.toList ++ Rows.literalBackSpec.plain.varTypes Tryd.prog) (ds ++ gs)).all (· ≤ reachBytes) = true := hsz0
  have hval : ∀ (j : Nat) t v, Tryd.f7.params[j]? = some t → args[j]? = some v → Value.okWide Tryd.prog W .any base t v := hval0
  have hW' := hW
  obtain ⟨p, q, hA0, hV, rfl, hfz, hnd⟩ := hW
  have hA : DataW.TrodAll enc Tryd.prog W 0 (fun _ => true) true Tryd.f7.params.toList args.toList ds p := hA0
  rw [Tryd.params7] at hA hval hsz
  obtain ⟨v0, vs0, d0, ds0, p0, q0, hargs, rfl, rfl, h0, r0⟩ := trodAll_cons hA
  obtain ⟨v1, vs1, d1, ds1, p1, q1, rfl, rfl, rfl, h1, r1⟩ := trodAll_cons r0
  obtain ⟨v2, vs2, d2, ds2, p2, q2, rfl, rfl, rfl, h2, r2⟩ := trodAll_cons r1
  obtain ⟨rfl, rfl, rfl⟩ := trodAll_nil r2
  obtain rfl : args = #[v0, v1, v2] := by cases args; simp_all
  obtain ⟨rfl, rfl⟩ := trodVars_none hV
  obtain ⟨a0, rfl, rfl, rfl, w0⟩ := open_int Tryd.underlying3 (hval 0 3 v0 rfl rfl) h0
  obtain ⟨a1, rfl, rfl, rfl, y1⟩ := open_string Tryd.underlying9 (hval 1 9 v1 rfl rfl) h1
  have w1 : a1.size ≤ 140737488351232 := by
    have z := sized_string hsz (j := 1) (t := 9) rfl rfl
    rw [Array.length_toList] at z
    exact z
  obtain ⟨a2, rfl, rfl, rfl, w2⟩ := open_int Tryd.underlying5 (hval 2 5 v2 rfl rfl) h2
  clear hA0 hval0 hsz0 hsz
  refine (@QLiteralBack.linotypelaw02_LiteralBack.walk (Go.Proofs.YtdndcigppbhhdaaDoorAM.gloOf W) (tabOf W hL) Pure.LiteralBack a0 a1 a2 W (Go.Proofs.YtdndcigppbhhdaaDoorAM.low_self W) w0 w1 w2).mono fun e W' ⟨he, bel⟩ => ?_
  subst he
  exact ⟨_, rfl, _, _, _, [], _, [], hW', trodAll_mk1 (shut_bool Tryd.underlying4 _), (trodAll_cons_mk (shut_int Tryd.underlying3 w0) (trodAll_cons_mk (shut_string Tryd.underlying9 y1) (trodAll_cons_mk (shut_int Tryd.underlying5 w2) trodAll_mk0))), rfl, bel.frame _, fun h => by cases h⟩
theorem proved : Rows.LiteralBackSaid :=
  OpenClaim.holds_of_wide 7 Tryd.f7 rfl rfl rfl rfl rfl rfl rfl ⟨rfl, rfl, rfl, rfl, rfl⟩ rfl rfl rfl rfl rfl (by kernel_rfl) Tryd.func7 (by kernel_rfl)
    (of_decide_eq_true (by kernel_rfl)) (by unfold Func.isWrapper; first | (rw [if_pos (by decide +kernel)]; kernel_rfl) | (rw [if_neg (by decide +kernel)]; exact ⟨rfl, rfl⟩))
    (fun os started H enc _ => lifted os started H enc)
theorem card : Rows.LiteralBackCardSaid :=
  Claim7.holds_tied_plain_at .later [] [.data, .data, .data] true (true, "e99c2649b5721d0c6bbaca1b3a52598c08a0246e59bb44c8aced930d5b374aa4") false
    proved (fun _ h => by cases h) (by kernel_rfl) (fun _ h => by cases h) literalBack_row_tie rfl ⟨rfl, rfl⟩ (by kernel_rfl) rfl
    (fun f fn hf hfn => by
      obtain rfl : f = 7 := Option.some.inj ((show Tryd.prog.funcNamed "linotype/linotypelaw02.LiteralBack" = some 7 by kernel_rfl).symm.trans hf) |>.symm
      obtain rfl : fn = Tryd.f7 := (Option.some.inj (Tryd.func7.symm.trans hfn)).symm
      exact ⟨by kernel_rfl, fun j t ht => by
        rw [Tryd.params7] at ht
        have hm : t ∈ ([3, 9, 5] : List Nat) := by simpa using Array.mem_of_getElem? ht
        have hall : (([3, 9, 5] : List Nat).all fun u => !Tryd.prog.wantsStandIn u) = true := by kernel_rfl
        exact (show Tryd.prog.wantsStandIn t = false by simpa using List.all_eq_true.1 hall t hm)⟩)
    (by kernel_rfl)
#print axioms card
end Go.Proofs.YtdndcigppbhhdaaDoor.literalBack
namespace Go.Proofs.YtdndcigppbhhdaaDoor
/-- The card, under a short name, for the claim. -/
theorem literalBack_holds : Rows.LiteralBackCardSaid := literalBack.card
end Go.Proofs.YtdndcigppbhhdaaDoor
