/-
  The interpreter over abstract values: a region that draws its order, whole; code; calls. (text 12)
-/
import Derived.Test.YtdndcigppbhhdaaDoorAM11
namespace Go.Proofs.YtdndcigppbhhdaaDoorAM
open Go.RowKit
set_option linter.unusedSimpArgs false
set_option linter.unusedVariables false
noncomputable section

theorem FR.less {ρ ρ' : Ren} {h h1 h2 : HF} {w w' : World} (A : FR ρ h w ρ' h1 w') (hh : ∀ id b, h2 id = some b → h1 id = some b) : FR ρ h w ρ' h2 w' :=
  ⟨A.os, A.tape, A.output, A.size, A.keep, fun id hid => by
    obtain ⟨b, hb⟩ := Option.isSome_iff_exists.1 hid
    exact A.img id (by rw [hh id b hb]; rfl)⟩
theorem countP_lt {α : Type} (p q : α → Bool) : ∀ l : List α, (∀ x ∈ l, q x = true → p x = true) → (∃ x ∈ l, p x = true ∧ q x = false) → l.countP q < l.countP p
  | [], _, h => by obtain ⟨x, hx, _⟩ := h; simp at hx
  | a :: l, h1, h2 => by
    have hle : l.countP q ≤ l.countP p := List.countP_mono_left (fun x hx hq => h1 x (by simp [hx]) hq)
    by_cases hl : ∃ x ∈ l, p x = true ∧ q x = false
    · have ih := countP_lt p q l (fun x hx => h1 x (by simp [hx])) hl
      simp only [List.countP_cons]
      have := h1 a (by simp)
      cases hq : q a <;> cases hp : p a <;> simp_all <;> omega
    · obtain ⟨x, hx, h3, h4⟩ := h2
      rcases List.mem_cons.1 hx with rfl | hx
      · simp only [List.countP_cons, h3, h4]
        simp
        omega
      · exact absurd ⟨x, hx, h3, h4⟩ hl

section
variable [Glo] {P : Program} {call : CallF} {nt : Nat} {ops : Array Oper} {as : List AOp} {ms : List Nat} {base : Nat} {D : Nat → DS} {val : Nat → AV} (G : Reg P call nt ops as ms base D val) (C : CallOK P call)
variable {tm0 : T AV} (h00 : (D 0).tm = tm0) {ρ0 : Ren} {h0 : T Blk} {w0 : World} {df : List Deferred}
include G C h00

theorem dr_step {listed : Array Bool} {ρ : Ren} {p : Nat} {a : Act} {w : World} (I : J nt ops as ms base D val tm0 ρ0 h0 w0 df listed ρ p a w) {i : Nat} (hr : i ∈ Region.ready .any ops listed) {K : Act → World → Prop} {Q : Exit → Act → World → Prop}
    (hK : ∀ a' w' ρ' p', J nt ops as ms base D val tm0 ρ0 h0 w0 df (listed.setIfInBounds i true) ρ' p' a' w' → K a' w') : wpOp P ops Q i K a w := by
  obtain ⟨_, o, ho, _⟩ := mem_ready.1 hr
  obtain ⟨ao, ha, hd, hdl, hneed, hgd, hok⟩ := G.dst_eq ho
  have A := J.reads G I hr ho h00
  rw [← hneed] at A
  unfold wpOp
  rw [ho]
  simp only
  have uniq : ∀ {q : AOp}, as[i]? = some q → q = ao := fun h => by rw [ha] at h; injection h with h; exact h.symm
  rcases G.dc i ao ha with ⟨hw, hv, _⟩ | ⟨hw, k, hk, hv, _⟩ | ⟨hw, k, hk, blk, ld, hv, hl, _⟩ | ⟨hw, k, hk, id, off, hx, hid, hv, hc, _⟩ | ⟨hw, hk, hv, _⟩
  · rw [want_sound A hgd hw]
    simp only [Bool.false_eq_true, if_false]
    refine hK _ _ ρ p (J.quiet G I hr ho ?_ ?_ (by rw [hv]; exact .tup _ _ .nil))
    · rintro ⟨q, h1, h2, _⟩
      rw [uniq h1] at h2
      rw [hw] at h2
      cases h2
    · rintro b ⟨q, _, _, h1, h2, _⟩
      rw [uniq h1] at h2
      rw [hw] at h2
      cases h2
  · rw [want_sound A hgd hw]
    simp only [if_true]
    left
    obtain ⟨cv, e1, e2⟩ := pure_sound A w (compOK_p (by rw [← hk]; exact hok)) hv o rfl
    unfold Oper.wp
    rw [e1]
    refine hK _ _ ρ p (J.quiet G I hr ho ?_ ?_ e2)
    · rintro ⟨q, h1, _, h3⟩
      rw [uniq h1, hk] at h3
      cases h3
    · rintro b ⟨q, _, _, h1, _, h3, _⟩
      rw [uniq h1, hk] at h3
      cases h3
  · rw [want_sound A hgd hw]
    simp only [if_true]
    left
    obtain ⟨cs, cv, e1, e2, e3⟩ := alloc_sound (compOK_k (by rw [← hk]; exact hok)) A w hv o rfl
    unfold Oper.wp
    rw [e1]
    have hi : i < ops.size := (Array.getElem?_eq_some_iff.1 ho).1
    refine hK _ _ _ p (J.alloc G I hr ho ?_ ⟨ao, k, ld, ha, hw, hk, hv⟩ e2 ?_)
    · rintro ⟨q, h1, _, h3⟩
      rw [uniq h1, hk] at h3
      cases h3
    · rw [hl, G.idx i (by omega)]
      exact e3 _ _ (Ren.up_self _ _ _)
  · rw [want_sound A hgd hw]
    simp only [if_true]
    left
    have hL : IsL as D i (k.agg, k.sz, id, off) := ⟨ao, k, id, off, ha, hw, hk, hx, rfl⟩
    have h1 := J.load G I hr ho hL
    have h2 : k.ev (restr (D i).tm ao.need) (hS as ms D base (Lof listed) p) = some (val i) := by
      simp only [LK.ev, hx]
      rw [← h1] at hv
      simp only [LI.at_, loadAt_def] at hv
      have hB : hS as ms D base (Lof listed) p id = (D p).B.get id := hS_B (fun j b _ e => by omega)
      simp only [loadAt_def, hB]
      exact hv
    obtain ⟨cv, e1, e2⟩ := load_sound (compOK_l (by rw [← hk]; exact hok)) A I.hp h2 o rfl
    unfold Oper.wp
    rw [e1]
    refine hK _ _ ρ p (J.quiet G I hr ho ?_ ?_ e2)
    · rintro ⟨q, h1, _, h3⟩
      rw [uniq h1, hk] at h3
      cases h3
    · rintro b ⟨q, _, _, h1, _, h3, _⟩
      rw [uniq h1, hk] at h3
      cases h3
  · rw [want_sound A hgd hw]
    simp only [if_true]
    left
    have hi : i < ops.size := (Array.getElem?_eq_some_iff.1 ho).1
    have hE : IsE as D i := ⟨ao, ha, hw, hk⟩
    have I' := J.move G I (q := i) (by omega) (J.ep_at G I hr ho hE)
    have hH : HR ρ (addp base ((D i).al.filter fun q => ao.anc.testBit q.1) (D i).B).get w := by
      refine I'.hp.less (fun id b hb => ?_)
      rcases addp_get hb with ⟨j, h1, h2⟩ | ⟨h1, h2⟩
      · rw [List.mem_filter, G.al j b i (by omega)] at h1
        obtain ⟨⟨h3, h4, h5⟩, h6⟩ := h1
        rw [G.anc_eq ha] at h6
        subst h2
        exact hS_p ⟨J.anc G I hr ho (by omega) h6, h4, h5⟩
      · rw [hS_B (fun j blk h3 h4 => ?_)]
        · exact h2
        · subst h4
          rw [I'.dj j blk h3] at h2
          cases h2
    exact eff_sound C hok A hH I'.fr1 I'.ev hv (fun cv w' ρ' h1 h2 h3 h4 h5 => hK _ _ ρ' (i + 1) (J.eff G I' hr ho ha hw hk rfl h1 h2 h3 h4 h5))

theorem dr_all {Q : Exit → Act → World → Prop} (hQ : ∀ a w ρ listed p, J nt ops as ms base D val tm0 ρ0 h0 w0 df listed ρ p a w → (∀ j, j < ops.size → Lof listed j = true) → Q .normal a w) :
    ∀ (fuel : Nat) (listed : Array Bool) (ρ : Ren) (p : Nat) (a : Act) (w : World), J nt ops as ms base D val tm0 ρ0 h0 w0 df listed ρ p a w → (List.range ops.size).countP (fun j => !Lof listed j) ≤ fuel → wpAny P .any ops Q fuel listed a w := by
  have nil : ∀ {listed : Array Bool} {ρ : Ren} {p : Nat} {a : Act} {w : World}, J nt ops as ms base D val tm0 ρ0 h0 w0 df listed ρ p a w → Region.ready .any ops listed = [] → ∀ j, j < ops.size → Lof listed j = true := by
    intro listed ρ p a w I h j
    induction j using Nat.strongRecOn with
    | _ j ih =>
      intro hj
      cases hL : Lof listed j with
      | true => rfl
      | false =>
        exfalso
        have ho : ops[j]? = some ops[j] := by simp [hj]
        have : j ∈ Region.ready .any ops listed := by
          rw [mem_ready]
          refine ⟨?_, ops[j], ho, fun e he hb => ?_⟩
          · have hl : j < listed.size := by rw [I.sz]; exact hj
            simp only [Lof, Array.getD, hl, dif_pos] at hL ⊢
            exact hL
          · have := G.c1 ho he hb
            exact ih e.on this (by omega)
        rw [h] at this
        cases this
  intro fuel
  induction fuel with
  | zero =>
    intro listed ρ p a w I hc
    have all : ∀ j, j < ops.size → Lof listed j = true := by
      intro j hj
      have h0 : (List.range ops.size).countP (fun j => !Lof listed j) = 0 := by omega
      have := List.countP_eq_zero.1 h0 j (by simp [hj])
      simpa using this
    refine ⟨?_, hQ a w ρ listed p I all⟩
    cases h : Region.ready .any ops listed with
    | nil => rfl
    | cons j l =>
      exfalso
      have hj : j ∈ Region.ready .any ops listed := by rw [h]; simp
      obtain ⟨h1, o, h2, _⟩ := mem_ready.1 hj
      have h3 := I.unl hj h2
      rw [all j (Array.getElem?_eq_some_iff.1 h2).1] at h3
      cases h3
  | succ fuel ih =>
    intro listed ρ p a w I hc
    refine ⟨fun h => hQ a w ρ listed p I (nil I h), fun i hi => ?_⟩
    obtain ⟨_, o, ho, _⟩ := mem_ready.1 hi
    have hil : i < ops.size := (Array.getElem?_eq_some_iff.1 ho).1
    refine dr_step G C h00 I hi (fun a' w' ρ' p' I' => ih _ ρ' p' a' w' I' ?_)
    have := countP_lt (fun j => !Lof listed j) (fun j => !Lof (listed.setIfInBounds i true) j) (List.range ops.size) (fun x _ hx => by
      rw [J.L' I hil] at hx
      split at hx
      · cases hx
      · exact hx) ⟨i, by simp [hil], by rw [I.unl hi ho]; rfl, by rw [J.L' I hil, if_pos rfl]; rfl⟩
    omega
end

/-- THE REGION. -/
theorem dreg_sound [Glo] {P : Program} {call : CallF} (C : CallOK P call) (hm : P.follows .mixedOrders = true) {nt : Nat} {ops : Array Oper} {os : List AOp} (hc : compDr P nt ops = some os) {ρ : Ren} {s s' : St} {a : Act} {w : World} (S : SR ρ s nt a w)
    (hr : runDr call os s = some s') {id : Nat} {Q : Exit → Act → World → Prop} (hQ : ∀ a' w' ρ', SR ρ' s' nt a' w' → TR ρ s.hp s.nx w ρ' s'.hp s'.nx w' → a'.defers = a.defers → Q .normal a' w') : (Code.region id ops true).wp P Q a w := by
  unfold compDr at hc
  split at hc
  · rename_i hchk
    obtain ⟨hlen, hcomp⟩ := compDl_ok hc
    have hchk := fun j o => chkAll_ok hchk j o
    unfold runDr at hr
    split at hr
    · rename_i d hd
      injection hr with hr
      obtain ⟨D, d0, d1, d2⟩ := runD_states hd
      have hlen' : os.length = ops.size := by rw [hlen]; simp
      have dcs : ∀ i, ∃ v, ∀ ao, os[i]? = some ao → (D (i + 1)).tm = putA (D i).tm ao.dst v ∧ (D (i + 1)).i = (D i).i + 1 ∧ DC call s.nx ao (D i) (D (i + 1)) v := by
        intro i
        cases hi : os[i]? with
        | none => exact ⟨undefA, fun ao h => by cases h⟩
        | some ao =>
          obtain ⟨v, h1, h2, h3⟩ := dStep_DC (d2 i ao hi)
          exact ⟨v, fun ao' h => by injection h with h; subst h; exact ⟨h1, h2, h3⟩⟩
      obtain ⟨val, hval⟩ := Classical.axiomOfChoice dcs
      have hat : ∀ i, i < ops.size → ∃ ao, os[i]? = some ao := fun i hi => ⟨os[i]'(by omega), by simp⟩
      have G : Reg P call nt ops os (maskGo ops.toList []) s.nx D val := {
        len := hlen'
        comp := fun i o ho => by
          have := hcomp i o (by simpa using ho)
          simpa using this
        chk := fun i o ho => by
          have := hchk i o (by simpa using ho)
          simpa using this
        idx := fun i => by
          induction i with
          | zero => intro _; rw [d0]
          | succ i ih =>
            intro hi
            obtain ⟨ao, ha⟩ := hat i (by omega)
            rw [(hval i ao ha).2.1, ih (by omega)]
        tm := fun i ao ha => (hval i ao ha).1
        dc := fun i ao ha => (hval i ao ha).2.2
        al0 := by rw [d0]
        ld0 := by rw [d0]
        ef0 := by rw [d0] }
      have hL : ∀ j, Lof (Array.replicate ops.size false) j = false := fun j => by
        simp only [Lof, Array.getD]
        split <;> simp
      have hno : ∀ q j blk, ¬ Pend os (maskGo ops.toList []) D (Lof (Array.replicate ops.size false)) q j blk := fun q j blk h => by
        have := h.1
        rw [hL] at this
        cases this
      have hh : hS os (maskGo ops.toList []) D s.nx (Lof (Array.replicate ops.size false)) 0 = s.hp.get := by
        funext id
        rw [hS_B (fun j blk h _ => hno _ j blk h), d0]
      have hHR : HR ρ s.hp.get { w with drawn := w.drawn + 1 } := ⟨S.hp.at_, S.hp.inj, S.hp.lo, S.hp.low⟩
      have I0 : J nt ops os (maskGo ops.toList []) s.nx D val s.tm ρ s.hp w a.defers (Array.replicate ops.size false) ρ 0 a { w with drawn := w.drawn + 1 } := {
        sz := by simp
        dc := fun i h => by rw [hL] at h; cases h
        ple := Nat.zero_le _
        ep := fun e _ => by rw [hL]; simp
        tm := fun t u h => by
          have : lw (Lof (Array.replicate ops.size false)) (dstf os) val s.tm ops.size t = lw (Lof (Array.replicate ops.size false)) (dstf os) val s.tm 0 t := lw_skip ops.size (Nat.zero_le _) (fun j _ _ _ => hL j)
          rw [this] at h
          exact S.tm t u h
        hp := by rw [hh]; exact hHR
        dj := fun j blk h => absurd h (hno _ j blk)
        fr1 := fun id h => by rw [d0] at h; exact S.fr id (by simp only at h; omega)
        fr2 := fun j _ _ => S.fr _ (by omega)
        bn := by rw [d0]; simp only; omega
        ev := by rw [d0]; simp only; have := S.ev; omega
        ag := Ag.refl _ _
        frm := by
          rw [hh]
          exact ⟨rfl, rfl, rfl, Nat.le_refl _, fun _ _ _ => rfl, fun id hid => by
            obtain ⟨q, hq⟩ := S.hp.known hid
            exact ⟨q, hq, .inl ⟨id, q, hid, hq, rfl⟩⟩⟩
        ts := S.sz
        df := rfl }
      refine wp_region_any hm (dr_all G C (by rw [d0]) (fun a' w' ρ' listed p I all => ?_) ops.size _ ρ 0 a _ I0 (by simpa using List.countP_le_length (p := fun j => !Lof (Array.replicate ops.size false) j) (l := List.range ops.size)))
      have I' := J.move G I (q := ops.size) (Nat.le_refl _) (fun e he => by
        have := he.lt
        exact ⟨fun _ => by omega, fun h => all e h⟩)
      have hDm : D ops.size = d := by rw [← hlen']; exact d1
      subst hr
      have hsub : ∀ id b, (addp s.nx d.al d.B).get id = some b → hS os (maskGo ops.toList []) D s.nx (Lof listed) ops.size id = some b := by
        intro id b hb
        rcases addp_get hb with ⟨j, h1, h2⟩ | ⟨h1, h2⟩
        · rw [← hDm, G.al j b ops.size (Nat.le_refl _)] at h1
          obtain ⟨h3, h4, h5⟩ := h1
          subst h2
          exact hS_p ⟨all j h3, h4, h5⟩
        · rw [hS_B (fun j blk h3 h4 => ?_)]
          · rw [hDm]; exact h2
          · subst h4
            rw [← hDm, I'.dj j blk h3] at h2
            cases h2
      refine hQ a' w' ρ' ⟨?_, I'.hp.less hsub, by rw [← hDm]; exact I'.fr1, by rw [← hDm]; exact I'.ev, I'.ts⟩ ⟨I'.ag, I'.frm.less hsub, ?_⟩ I'.df
      · intro t v hv
        refine I'.tm t v ?_
        rw [lw_all (D := D) (by rw [d0]) ops.size (fun i hi => ?_) (fun j hj _ => all j hj), hDm]
        · exact hv
        · obtain ⟨ao, ha⟩ := hat i hi
          rw [(hval i ao ha).1]
          simp [dstf, ha]
      · have := I'.bn
        rw [hDm] at this
        simp only
        omega
    · cases hr
  · cases hc
end
end Go.Proofs.YtdndcigppbhhdaaDoorAM
