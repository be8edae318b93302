/-
  The interpreter over abstract values: a region that draws its order: effects, loads, the whole. (text 11)
-/
import Derived.Test.YtdndcigppbhhdaaDoorAM10
namespace Go.Proofs.YtdndcigppbhhdaaDoorAM
open Go.RowKit
set_option linter.unusedSimpArgs false
set_option linter.unusedVariables false
noncomputable section

section
variable {P : Program} {call : CallF} {nt : Nat} {ops : Array Oper} {as : List AOp} {ms : List Nat} {base : Nat} {D : Nat → DS} {val : Nat → AV} (G : Reg P call nt ops as ms base D val)
variable [Glo] {tm0 : T AV} {ρ0 : Ren} {h0 : T Blk} {w0 : World} {df : List Deferred} {listed : Array Bool} {ρ : Ren} {p : Nat} {a : Act} {w : World} (I : J nt ops as ms base D val tm0 ρ0 h0 w0 df listed ρ p a w)
include G I

/-- The place between the effects may be told otherwise. -/
theorem J.move {q : Nat} (hq : q ≤ ops.size) (hep : ∀ e, IsE as D e → (Lof listed e = true ↔ e < q)) : J nt ops as ms base D val tm0 ρ0 h0 w0 df listed ρ q a w := by
  have hpq : ∀ e, IsE as D e → (e < p ↔ e < q) := fun e he => (I.ep e he).symm.trans (hep e he)
  have hB : (D q).B = (D p).B ∧ (D q).nx = (D p).nx := by
    rcases Nat.le_total p q with h | h
    · exact G.between q h hq (fun e h1 h2 h3 => by have := (hpq e h3).2 h2; omega)
    · have := G.between p h I.ple (fun e h1 h2 h3 => by have := (hpq e h3).1 h2; omega)
      exact ⟨this.1.symm, this.2.symm⟩
  have hP : ∀ j blk, Pend as ms D (Lof listed) q j blk ↔ Pend as ms D (Lof listed) p j blk := by
    intro j blk
    unfold Pend
    constructor
    · rintro ⟨h1, h2, h3⟩
      exact ⟨h1, h2, fun e h4 h5 h6 => h3 e h4 ((hpq e h6).1 h5) h6⟩
    · rintro ⟨h1, h2, h3⟩
      exact ⟨h1, h2, fun e h4 h5 h6 => h3 e h4 ((hpq e h6).2 h5) h6⟩
  have hh : hS as ms D base (Lof listed) q = hS as ms D base (Lof listed) p := by
    funext id
    by_cases hx : ∃ j blk, Pend as ms D (Lof listed) p j blk ∧ id = base + 2 * j
    · obtain ⟨j, blk, h1, h2⟩ := hx
      subst h2
      rw [hS_p h1, hS_p ((hP j blk).2 h1)]
    · rw [hS_B (fun j blk h1 h2 => hx ⟨j, blk, h1, h2⟩), hS_B (fun j blk h1 h2 => hx ⟨j, blk, (hP j blk).1 h1, h2⟩), hB.1]
  exact {
    sz := I.sz
    dc := I.dc
    ple := hq
    ep := hep
    tm := I.tm
    hp := by rw [hh]; exact I.hp
    dj := fun j blk h => by rw [hB.1]; exact I.dj j blk ((hP j blk).1 h)
    fr1 := by rw [hB.2]; exact I.fr1
    fr2 := I.fr2
    bn := by rw [hB.2]; exact I.bn
    ev := by rw [hB.2]; exact I.ev
    ag := I.ag
    frm := by rw [hh]; exact I.frm
    ts := I.ts
    df := I.df }

variable {i : Nat} {o : Oper} (hr : i ∈ Region.ready .any ops listed) (ho : ops[i]? = some o)
include hr ho
theorem J.ep_at (hE : IsE as D i) : ∀ e, IsE as D e → (Lof listed e = true ↔ e < i) := by
  have hi : i < ops.size := (Array.getElem?_eq_some_iff.1 ho).1
  have hu := I.unl hr ho
  intro e he
  constructor
  · intro hL
    rcases Nat.lt_trichotomy e i with h | h | h
    · exact h
    · subst h
      rw [hu] at hL
      cases hL
    · have := I.dc e hL i hi (G.chain he hE h)
      rw [hu] at this
      cases this
  · intro h
    exact J.anc G I hr ho (by omega) (G.chain hE he h)

/-- An effect. -/
theorem J.eff {ao : AOp} (ha : as[i]? = some ao) (hw : wantA (restr (D i).tm ao.need) ao.gd = some true) (hk : ao.k.isE = true) (hp : p = i)
    {cv : Value} {w' : World} {ρ' : Ren} (hv : VR ρ' (val i) cv) (hH : HR ρ' (D (i + 1)).B.get w') (hF : Fr ρ' (D (i + 1)).nx) (hev : (D (i + 1)).nx % 2 = 0)
    (hT : TR ρ (addp base ((D i).al.filter fun q => ao.anc.testBit q.1) (D i).B) (D i).nx w ρ' (D (i + 1)).B (D (i + 1)).nx w') :
    J nt ops as ms base D val tm0 ρ0 h0 w0 df (listed.setIfInBounds i true) ρ' (i + 1) (a.put o.dst cv) w' := by
  subst hp
  have hi : p < ops.size := (Array.getElem?_eq_some_iff.1 ho).1
  have hu := I.unl hr ho
  have hE : IsE as D p := ⟨ao, ha, hw, hk⟩
  have hanc := G.anc_eq ha
  have hx : Ext ρ ρ' := hT.ag.ext I.fr1
  -- what the effect is given is told of
  have hsub : ∀ id b, (addp base ((D p).al.filter fun q => ao.anc.testBit q.1) (D p).B).get id = some b → hS as ms D base (Lof listed) p id = some b := by
    intro id b hb
    rcases addp_get hb with ⟨j, h1, h2⟩ | ⟨h1, h2⟩
    · rw [List.mem_filter, G.al j b p (by omega)] at h1
      obtain ⟨⟨h3, h4, h5⟩, h6⟩ := h1
      rw [hanc] at h6
      subst h2
      exact hS_p ⟨J.anc G I hr ho (by omega) h6, h4, h5⟩
    · rw [hS_B (fun j blk h3 h4 => ?_)]
      · exact h2
      · subst h4
        rw [I.dj j blk h3] at h2
        cases h2
  -- what is pending behind it was pending ahead of it, and is no part of what it is given
  have hpend : ∀ j blk, Pend as ms D (Lof (listed.setIfInBounds p true)) (p + 1) j blk → Pend as ms D (Lof listed) p j blk ∧ (addp base ((D p).al.filter fun q => ao.anc.testBit q.1) (D p).B).get (base + 2 * j) = none := by
    rintro j blk ⟨h1, h2, h3⟩
    have hj : j ≠ p := fun h => by
      subst h
      exact hE.not_K h2
    rw [J.L' I hi, if_neg hj] at h1
    have hP : Pend as ms D (Lof listed) p j blk := ⟨h1, h2, fun e h4 h5 h6 => h3 e h4 (by omega) h6⟩
    refine ⟨hP, ?_⟩
    cases hb : (addp base ((D p).al.filter fun q => ao.anc.testBit q.1) (D p).B).get (base + 2 * j) with
    | none => rfl
    | some b =>
      rcases addp_get hb with ⟨j', h4, h5⟩ | ⟨h4, h5⟩
      · have : j' = j := by omega
        subst this
        rw [List.mem_filter, G.al j' b p (by omega)] at h4
        obtain ⟨⟨h6, _, _⟩, h7⟩ := h4
        rw [hanc, h3 p h6 (by omega) hE] at h7
        cases h7
      · rw [I.dj j blk hP] at h5
        cases h5
  -- the block of what is pending is none of the effect's
  have haway : ∀ j blk, Pend as ms D (Lof (listed.setIfInBounds p true)) (p + 1) j blk → ∀ q, ρ (base + 2 * j) = some q → ∀ id q', ((D (p + 1)).B.get id).isSome → ρ' id = some q' → q'.1 ≠ q.1 := by
    intro j blk hP q hq id q' hid hq' heq
    obtain ⟨h1, h2⟩ := hpend j blk hP
    have hs : (hS as ms D base (Lof listed) p (base + 2 * j)).isSome := by rw [hS_p h1]; rfl
    obtain ⟨q2, h3, h4⟩ := hT.frm.img id hid
    rw [hq'] at h3
    injection h3 with h3
    subst h3
    rcases h4 with ⟨id0, q0, h5, h6, h7⟩ | h5
    · obtain ⟨b0, hb0⟩ := Option.isSome_iff_exists.1 h5
      have := I.hp.inj id0 (base + 2 * j) q0 q (by rw [hsub _ _ hb0]; rfl) hs h6 hq (h7.trans heq)
      rw [this, h2] at hb0
      cases hb0
    · have := I.hp.lt hs hq
      omega
  have hdj : ∀ j blk, Pend as ms D (Lof (listed.setIfInBounds p true)) (p + 1) j blk → (D (p + 1)).B.get (base + 2 * j) = none := by
    intro j blk hP
    cases hb : (D (p + 1)).B.get (base + 2 * j) with
    | none => rfl
    | some b =>
      obtain ⟨h1, _⟩ := hpend j blk hP
      obtain ⟨q, hq⟩ := I.hp.known (id := base + 2 * j) (by rw [hS_p h1]; rfl)
      exact absurd rfl (haway j blk hP q hq (base + 2 * j) q (by rw [hb]; rfl) (hx _ _ hq))
  have hless : HR ρ' (hS as ms D base (Lof (listed.setIfInBounds p true)) (p + 1)) w' := by
    refine ⟨fun id blk hid => ?_, fun i1 i2 p1 p2 h1 h2 h3 h4 h5 => ?_, fun i1 p1 h1 h3 => ?_, hH.low⟩
    · rcases hS_cases hid with ⟨j, h1, h2⟩ | ⟨_, h2⟩
      · subst h2
        obtain ⟨h3, h4⟩ := hpend j blk h1
        obtain ⟨b, c, e1, e2, e3, e4, e5⟩ := I.hp.at_ (base + 2 * j) blk (hS_p h3)
        refine ⟨b, c, hx _ _ e1, ?_, e3, e4, e5.ext hx⟩
        rw [hT.frm.keep b (Array.getElem?_eq_some_iff.1 e2).1 (fun id q h5 h6 h7 => ?_)]
        · exact e2
        · obtain ⟨b0, hb0⟩ := Option.isSome_iff_exists.1 h5
          have := I.hp.inj id (base + 2 * j) q _ (by rw [hsub _ _ hb0]; rfl) (by rw [hS_p h3]; rfl) h6 e1 h7
          rw [this, h4] at hb0
          cases hb0
      · exact hH.at_ id blk h2
    · obtain ⟨b1, hb1⟩ := Option.isSome_iff_exists.1 h1
      obtain ⟨b2, hb2⟩ := Option.isSome_iff_exists.1 h2
      rcases hS_cases hb1 with ⟨j1, e1, e2⟩ | ⟨_, e2⟩
      · subst e2
        obtain ⟨g1, _⟩ := hpend j1 b1 e1
        obtain ⟨q1, hq1⟩ := I.hp.known (id := base + 2 * j1) (by rw [hS_p g1]; rfl)
        have hp1 : p1 = q1 := by
          rw [hx _ _ hq1] at h3
          injection h3 with h3
          exact h3.symm
        rcases hS_cases hb2 with ⟨j2, e3, e4⟩ | ⟨_, e4⟩
        · subst e4
          obtain ⟨g2, _⟩ := hpend j2 b2 e3
          obtain ⟨q2, hq2⟩ := I.hp.known (id := base + 2 * j2) (by rw [hS_p g2]; rfl)
          have hp2 : p2 = q2 := by
            rw [hx _ _ hq2] at h4
            injection h4 with h4
            exact h4.symm
          subst hp1 hp2
          exact I.hp.inj _ _ p1 p2 (by rw [hS_p g1]; rfl) (by rw [hS_p g2]; rfl) hq1 hq2 h5
        · subst hp1
          exact absurd h5.symm (haway j1 b1 e1 p1 hq1 i2 p2 (by rw [e4]; rfl) h4)
      · rcases hS_cases hb2 with ⟨j2, e3, e4⟩ | ⟨_, e4⟩
        · subst e4
          obtain ⟨g2, _⟩ := hpend j2 b2 e3
          obtain ⟨q2, hq2⟩ := I.hp.known (id := base + 2 * j2) (by rw [hS_p g2]; rfl)
          have hp2 : p2 = q2 := by
            rw [hx _ _ hq2] at h4
            injection h4 with h4
            exact h4.symm
          subst hp2
          exact absurd h5 (haway j2 b2 e3 p2 hq2 i1 p1 (by rw [e2]; rfl) h3)
        · exact hH.inj i1 i2 p1 p2 (by rw [e2]; rfl) (by rw [e4]; rfl) h3 h4 h5
    · obtain ⟨b1, hb1⟩ := Option.isSome_iff_exists.1 h1
      rcases hS_cases hb1 with ⟨j1, e1, e2⟩ | ⟨_, e2⟩
      · subst e2
        obtain ⟨g1, _⟩ := hpend j1 b1 e1
        obtain ⟨q1, hq1⟩ := I.hp.known (id := base + 2 * j1) (by rw [hS_p g1]; rfl)
        rw [hx _ _ hq1] at h3
        injection h3 with h3
        subst h3
        exact I.hp.lo _ q1 (by rw [hS_p g1]; rfl) hq1
      · exact hH.lo i1 p1 (by rw [e2]; rfl) h3
  exact {
    sz := by simpa using I.sz
    dc := J.dc' G I hr ho
    ple := by omega
    ep := fun e he => by
      rw [J.L' I hi]
      by_cases h : e = p
      · subst h
        simp
      · rw [if_neg h, I.ep e he]
        omega
    tm := J.slots G I hr ho hx hv
    hp := hless
    dj := hdj
    fr1 := hF
    fr2 := fun j hj h => by
      rw [J.L' I hi] at h
      split at h
      · cases h
      · rw [hT.ag _ (by have := I.bn; omega)]
        exact I.fr2 j hj h
    bn := Nat.le_trans I.bn hT.le
    ev := hev
    ag := I.ag.trans hT.ag (by have := I.bn; omega)
    frm := I.frm.trans {
      os := hT.frm.os
      tape := hT.frm.tape
      output := hT.frm.output
      size := hT.frm.size
      keep := fun b hb hn => hT.frm.keep b hb (fun id q h1 h2 => by
        obtain ⟨b0, hb0⟩ := Option.isSome_iff_exists.1 h1
        exact hn id q (by rw [hsub _ _ hb0]; rfl) h2)
      img := fun id hid => by
        obtain ⟨b0, hb0⟩ := Option.isSome_iff_exists.1 hid
        rcases hS_cases hb0 with ⟨j, h1, h2⟩ | ⟨_, h2⟩
        · subst h2
          obtain ⟨g1, _⟩ := hpend j b0 h1
          obtain ⟨q, hq⟩ := I.hp.known (id := base + 2 * j) (by rw [hS_p g1]; rfl)
          exact ⟨q, hx _ _ hq, .inl ⟨_, q, by rw [hS_p g1]; rfl, hq, rfl⟩⟩
        · obtain ⟨q, h3, h4⟩ := hT.frm.img id (by rw [h2]; rfl)
          refine ⟨q, h3, ?_⟩
          rcases h4 with ⟨id0, q0, h5, h6, h7⟩ | h5
          · obtain ⟨b1, hb1⟩ := Option.isSome_iff_exists.1 h5
            exact .inl ⟨id0, q0, by rw [hsub _ _ hb1]; rfl, h6, h7⟩
          · exact .inr h5 }
    ts := by rw [put_size]; exact I.ts
    df := by rw [put_defers]; exact I.df }

/-- A load reads what it read in the text's order. -/
theorem J.load {li : LI} (hl : IsL as D i li) : li.at_ (D p).B = li.at_ (D i).B := by
  have hi : i < ops.size := (Array.getElem?_eq_some_iff.1 ho).1
  have hu := I.unl hr ho
  have step : ∀ e, e < ops.size → (IsE as D e → li.at_ (D e).B = li.at_ (D (e + 1)).B) → li.at_ (D e).B = li.at_ (D (e + 1)).B := by
    intro e he h
    by_cases hE : IsE as D e
    · exact h hE
    · obtain ⟨ao, ha⟩ := G.at_ he
      rw [(G.notE ha hE).1]
  rcases Nat.le_total p i with h | h
  · have : ∀ d, p + d ≤ i → li.at_ (D p).B = li.at_ (D (p + d)).B := by
      intro d
      induction d with
      | zero => intro _; rfl
      | succ d ih =>
        intro hd
        rw [ih (by omega)]
        refine step (p + d) (by omega) (fun hE => G.calm hl hE (fun _ => ?_) (fun h2 => by omega))
        cases hb : (Go.Proofs.YtdndcigppbhhdaaDoorAM.anc ms i).testBit (p + d) with
        | false => rfl
        | true =>
          have := (I.ep _ hE).1 (J.anc G I hr ho (by omega) hb)
          omega
    have h2 := this (i - p) (by omega)
    rwa [show p + (i - p) = i by omega] at h2
  · have : ∀ d, i + d ≤ p → li.at_ (D (i + d)).B = li.at_ (D i).B := by
      intro d
      induction d with
      | zero => intro _; rfl
      | succ d ih =>
        intro hd
        rw [← ih (by omega)]
        refine (step (i + d) (by have := I.ple; omega) (fun hE => G.calm hl hE (fun h2 => by omega) (fun _ => ?_))).symm
        cases hb : (Go.Proofs.YtdndcigppbhhdaaDoorAM.anc ms (i + d)).testBit i with
        | false => rfl
        | true =>
          have := I.dc _ ((I.ep _ hE).2 (by omega)) i hi hb
          rw [hu] at this
          cases this
    have h2 := this (p - i) (by omega)
    rwa [show i + (p - i) = p by omega] at h2
end
end
end Go.Proofs.YtdndcigppbhhdaaDoorAM
