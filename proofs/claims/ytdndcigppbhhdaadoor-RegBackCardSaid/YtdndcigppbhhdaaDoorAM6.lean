/-
  The interpreter over abstract values: append. (text 6)
-/
import Derived.Test.YtdndcigppbhhdaaDoorAM5
import Derived.Laws.BytesString
namespace Go.Proofs.YtdndcigppbhhdaaDoorAM
open Go.RowKit
set_option linter.unusedSimpArgs false
set_option linter.unusedVariables false
noncomputable section

structure GK where
  e : TypeId
  esz : Nat
  bytes : Nat
  x : AO
  y : AO
  deriving Inhabited

def cellsAt (h : T Blk) (id off m esz : Nat) : Option (List AV) :=
  match h.get id with
  | none => none
  | some blk => match Nat.ble (off + m * esz) blk.cells.length with
    | true => match off with
      | 0 => some (takeF (m * esz) blk.cells)
      | off => some (takeF (m * esz) (dropF off blk.cells))
    | false => none
def GK.add (k : GK) (h h0 : T Blk) (nx n : Nat) (xs : List AV) (id off m : Nat) : Option (AV × T Blk) :=
  match cellsAt h id off m k.esz with
  | none => none
  | some news => match news.all AV.one && Nat.ble ((n + m) * k.bytes) 140737488355328 && Nat.ble (n + m) 140737488355328 && (Nat.blt 0 n || Nat.blt 0 m) with
    | true => some (.sl (nx + 1) 0 (n + m) (n + m) k.esz, h0.put (nx + 1) ⟨xs ++ news, k.e⟩)
    | false => none
def GK.ev (tm : T AV) (h : T Blk) (nx : Nat) (k : GK) : Option (AV × T Blk) :=
  match k.x.ev tm, k.y.ev tm with
  | some .nils, some .nils => some (.nils, h)
  | some (.sl id off n c e), some .nils => some (.sl id off n c e, h)
  | some .nils, some (.sl id2 off m _ e2) => match Nat.beq e2 k.esz with
    | true => k.add h h nx 0 [] id2 off m
    | false => none
  | some (.sl id 0 n _ e), some (.sl id2 off m _ e2) => match Nat.beq e k.esz && Nat.beq e2 k.esz with
    | true => match h.get id with
      | none => none
      | some blk => match Nat.beq blk.elem k.e && Nat.ble (n * k.esz) blk.cells.length with
        | true => k.add h (h.del id) nx n (takeF (n * k.esz) blk.cells) id2 off m
        | false => none
    | false => none
  | _, _ => none

def compG (P : Program) : Op → Option GK
  | .call { callee := .builtin .append, args := args, argTypes := ts } => match args.toList, ts.toList with
    | [x, y], [t, t'] => match Nat.beq t t' with
      | true => match P.underlying t with
        | some (.slice e) => match tyOf P e, compO x, compO y with
          | some te, some ax, some ay => match te.zero with
            | some z => match Nat.beq z.length te.size && Nat.blt 0 te.size with
              | true => some ⟨e, te.size, te.bytes, ax, ay⟩
              | false => none
            | none => none
          | _, _, _ => none
        | _ => none
      | false => none
    | _, _ => none
  | _ => none

theorem cellsAt_sound [Glo] {ρ : Ren} {h : T Blk} {w : World} (H : HR ρ h.get w) {id off m esz : Nat} {news : List AV} (hc : cellsAt h id off m esz = some news) {b t : Nat} (hρ : ρ id = some (b, t)) :
    news.length = m * esz ∧ ∃ vs : List Value, VRL ρ news vs ∧ ∀ j u, vs[j]? = some u → w.cell? ((⟨b, off, none⟩ : Addr).add j) = some u := by
  unfold cellsAt at hc
  simp only [dropF_eq, takeF_eq] at hc
  split at hc
  · cases hc
  · rename_i blk hb
    split at hc
    · rename_i hle
      have hle := Nat.ble_eq.mp hle
      have hc' : news = (blk.cells.drop off).take (m * esz) := by
        split at hc
        · injection hc with hc
          exact hc.symm.trans (by simp)
        · injection hc with hc
          exact hc.symm
      subst hc'
      refine ⟨by simp; omega, ?_⟩
      obtain ⟨vs, hl, hvr, hcell⟩ := H.cell hb hρ
      refine ⟨(vs.drop off).take (m * esz), (hvr.drop off).take _, fun j u hj => ?_⟩
      rw [add_plain]
      rw [List.getElem?_take] at hj
      split at hj
      · rw [List.getElem?_drop] at hj
        exact hcell _ _ hj
      · cases hj
    · cases hc

theorem append_nil_run {P : Program} {w : World} {t ty e : TypeId} (hu : P.underlying t = some (.slice e)) {sz : Nat} (hs : (sizeOf e).run P w = .ok sz w) (b : Option Addr) (n c : Nat) (hn : n ≤ c) :
    (Builtin.append_ #[t, t] ty #[.slice b n c, .slice none 0 0]).run P w = .ok (.slice b n c) w := by
  cases b with
  | none => simp [Builtin.append_, run_underlying hu, hs, Builtin.lenOf, Builtin.firstCells, hn]
  | some b => simp [Builtin.append_, run_underlying hu, hs, Builtin.lenOf, Builtin.firstCells, hn, storeCells]

section
variable [Glo] {P : Program} {ρ : Ren} {h : T Blk} {w : World} (H : HR ρ h.get w) {nx : Nat} (F : Fr ρ nx) (he : nx % 2 = 0)
include H F he
theorem add_sound {k : GK} {t ty : TypeId} (hu : P.underlying t = some (.slice k.e)) {te : TyA} (hte : tyOf P k.e = some te) {z : List AV} (hz : te.zero = some z) (hzl : z.length = te.size) (hpos : 0 < te.size) (hesz : k.esz = te.size) (hby : k.bytes = te.bytes)
    {h0 h' : T Blk} {n id off m : Nat} {xs : List AV} {r : AV} (hr : k.add h h0 nx n xs id off m = some (r, h')) (old : Nat → Prop) (hh : ∀ j b, h0.get j = some b → h.get j = some b ∧ ¬ old j)
    (v : Value) (vs : List Value) (hxs : VRL ρ xs vs) (hown : w.ownsRow 0 k.e te.size v n vs)
    (hold : ∀ j p, (h.get j).isSome → ρ j = some p → ¬ old j → some p.1 ≠ v.ownBlock) (hrow : ∀ b, v.ownBlock = some b → ∃ j p, (h.get j).isSome ∧ ρ j = some p ∧ p.1 = b)
    {b tt c : Nat} (hρ : ρ id = some (b, tt)) :
    ∃ v' w' ρ', (Builtin.append_ #[t, t] ty #[v, .slice (some ⟨b, off, none⟩) m c]).run P w = .ok v' w' ∧ Ag nx ρ ρ' ∧ Fr ρ' (nx + 2) ∧ VR ρ' r v' ∧ HR ρ' h'.get w' ∧ FR ρ h.get w ρ' h'.get w' := by
  unfold GK.add at hr
  split at hr
  · cases hr
  · rename_i news hnews
    split at hr
    · rename_i hc
      injection hr with hr
      injection hr with hr1 hr2
      subst hr1
      subst hr2
      simp only [Bool.and_eq_true, Bool.or_eq_true, Nat.ble_eq] at hc
      obtain ⟨⟨⟨hc1, hc2⟩, hc3⟩, hc4⟩ := hc
      obtain ⟨hnl, ns, hns, hcell⟩ := cellsAt_sound H hnews hρ
      obtain ⟨i, hi, hi1, hi2, hi3⟩ := (tyOf_ok hte).info
      obtain ⟨zv, hz1, hz2⟩ := hi3 z hz
      have hzv := (hz2 ρ).length
      simp only [Array.length_toList] at hzv
      have hnsl : ns.length = m * te.size := by rw [← hns.length, hnl, hesz]
      obtain ⟨v', w', hrun, how, hgr, hnil, hat⟩ := run_append_own_at (P := P) w 0 t ty k.e i zv te.size te.bytes hu hi hz1 hi1 hi2 (by omega) hpos v n vs hown ⟨b, off, none⟩ m c ns hnsl hcell (hns.ones hc1)
        (by simp only [maxLen]; omega) (by rw [← hby]; exact hc2) (Nat.zero_le _)
      have hne : ¬ v' = .slice none 0 0 := by
        intro e
        obtain ⟨e1, e2⟩ := hnil.1 e
        rcases hc4 with hc4 | hc4
        · have := of_eq_true_ hc4
          rcases hown.2 with ⟨_, h0⟩ | ⟨g, cap, cur, hv, _⟩
          · omega
          · rw [e1] at hv
            cases hv
        · have := of_eq_true_ hc4
          omega
      rcases how.2 with ⟨e, _⟩ | ⟨g, cap, cur, hv', _, hg, hcap, hmax, hcs, htk⟩
      · exact absurd e hne
      · have hid : ρ (nx + 1) = none := F _ (by omega)
        have hcells : VRL ρ (xs ++ news) (vs ++ ns) := hxs.append hns
        have hlen : (xs ++ news).length = (n + m) * te.size := by rw [hcells.length]; exact how.1
        have hle : (xs ++ news).length ≤ cur.size := by
          rw [hlen, hcs]
          exact Nat.mul_le_mul_right _ hcap
        have hgn : v.ownBlock = some g ∨ g = w.heap.size := by
          rw [hv'] at hat
          simp only [Value.ownBlock] at hat
          rcases hat with hat | hat
          · exact .inl hat.symm
          · injection hat with hat
            exact .inr hat
        have hVR : VR (ρ.up (nx + 1) (g, cur.size)) (.sl (nx + 1) 0 (n + m) (n + m) k.esz) v' := by
          rw [hv']
          exact .sl _ _ _ _ _ g cur.size cap (Ren.up_self _ _ _) hcap (by rw [hcs, hesz]; omega) hmax (fun e => by omega) (Nat.le_refl _)
        refine ⟨v', w', ρ.up (nx + 1) (g, cur.size), hrun, Ag.up _ (by omega), Fr.up _ F (by omega) (by omega), hVR, ?_, ?_⟩
        · rw [HF.get_put]
          exact H.grow (old := old) hid hgr hrow hold g cur ⟨xs ++ news, k.e⟩ hg hgn hle (by omega) (by simp only; rw [hlen, htk]; exact hcells) h0.get hh
        · rw [HF.get_put]
          exact H.grow_FR hid hgr g cur.size ⟨xs ++ news, k.e⟩ hrow hgn h0.get (fun j b e => (hh j b e).1)
    · cases hr

theorem append_sound {o : Op} {k : GK} (hk : compG P o = some k) {tm : T AV} {a : Act} (A : AR ρ tm a.tmps) {r : AV} {h' : T Blk} (hr : k.ev tm h nx = some (r, h')) (op : Oper) (ho : op.op = o) :
    ∃ v w' ρ', (execOp a.eval op).run P w = .ok (.value v) w' ∧ Ag nx ρ ρ' ∧ Fr ρ' (nx + 2) ∧ VR ρ' r v ∧ HR ρ' h'.get w' ∧ FR ρ h.get w ρ' h'.get w' := by
  unfold execOp
  rw [ho]
  unfold compG at hk
  split at hk
  · rename_i args ts
    split at hk
    · rename_i x y t t' hx0 ht0
      have ex : args = #[x, y] := by
        have := congrArg List.toArray hx0
        simpa using this
      have et : ts = #[t, t'] := by
        have := congrArg List.toArray ht0
        simpa using this
      subst ex
      subst et
      split at hk
      · rename_i htt
        have htt := Nat.eq_of_beq_eq_true htt
        subst htt
        split at hk
        · rename_i e hu
          split at hk
          · rename_i te ax ay hte hx hy
            split at hk
            · rename_i z hz
              split at hk
              · rename_i hc
                injection hk with hk
                subst hk
                simp only [Bool.and_eq_true] at hc
                have hzl := Nat.eq_of_beq_eq_true hc.1
                have hpos := of_eq_true_ hc.2
                have hs := (tyOf_ok hte).run_size w
                simp only [resolve, invoke, builtin, Sem.run_bind, Sem.run_pure, Result.andThen_ok, List.map_toArray, List.map_cons, List.map_nil]
                have same : ∀ {v : Value} {r : AV}, (Builtin.append_ #[t, t] op.type #[a.eval x, a.eval y]).run P w = .ok v w → VR ρ r v →
                    ∃ v w' ρ', ((Builtin.append_ #[t, t] op.type #[a.eval x, a.eval y]).run P w).andThen (fun a w' => .ok (Next.value a) w') = .ok (.value v) w' ∧ Ag nx ρ ρ' ∧ Fr ρ' (nx + 2) ∧ VR ρ' r v ∧ HR ρ' h.get w' ∧ FR ρ h.get w ρ' h.get w' :=
                  fun {v r} h1 h2 => ⟨v, w, ρ, by rw [h1]; rfl, Ag.refl _ _, fun j hj => F j (by omega), h2, H, FR.refl H (fun _ h => h)⟩
                have more : ∀ {r : AV} {h' : T Blk}, (∃ v' w' ρ', (Builtin.append_ #[t, t] op.type #[a.eval x, a.eval y]).run P w = .ok v' w' ∧ Ag nx ρ ρ' ∧ Fr ρ' (nx + 2) ∧ VR ρ' r v' ∧ HR ρ' h'.get w' ∧ FR ρ h.get w ρ' h'.get w') →
                    ∃ v w' ρ', ((Builtin.append_ #[t, t] op.type #[a.eval x, a.eval y]).run P w).andThen (fun a w' => .ok (Next.value a) w') = .ok (.value v) w' ∧ Ag nx ρ ρ' ∧ Fr ρ' (nx + 2) ∧ VR ρ' r v ∧ HR ρ' h'.get w' ∧ FR ρ h.get w ρ' h'.get w' :=
                  fun {r h'} ⟨v, w', ρ', h1, h2⟩ => ⟨v, w', ρ', by rw [h1]; rfl, h2⟩
                simp only [GK.ev, takeF_eq] at hr
                split at hr
                · rename_i hv1 hv2
                  injection hr with hr
                  injection hr with hr1 hr2
                  subst hr1
                  subst hr2
                  have e1 := ev_sound A hx hv1
                  have e2 := ev_sound A hy hv2
                  refine same (v := .slice none 0 0) ?_ .nils
                  generalize a.eval x = vx at e1 ⊢
                  generalize a.eval y = vy at e2 ⊢
                  cases e1
                  cases e2
                  exact append_nil_run hu hs none 0 0 (Nat.le_refl _)
                · rename_i id off n c e' hv1 hv2
                  injection hr with hr
                  injection hr with hr1 hr2
                  subst hr1
                  subst hr2
                  have e1 := ev_sound A hx hv1
                  have e2 := ev_sound A hy hv2
                  refine same (v := a.eval x) ?_ e1
                  generalize a.eval x = vx at e1 ⊢
                  generalize a.eval y = vy at e2 ⊢
                  cases e1 with
                  | sl _ _ _ _ _ b tt c' hb hcc ht hm hex hn =>
                    cases e2
                    exact append_nil_run hu hs (some ⟨b, off, none⟩) n c' (by omega)
                · rename_i id2 off m c2 e2 hv1 hv2
                  split at hr
                  · rename_i hee
                    have e1 := ev_sound A hx hv1
                    have e2 := ev_sound A hy hv2
                    refine more ?_
                    generalize a.eval x = vx at e1 ⊢
                    generalize a.eval y = vy at e2 ⊢
                    cases e1
                    cases e2 with
                    | sl _ _ _ _ _ b tt c' hb hcc ht hm hex hn =>
                      exact add_sound H F he (t := t) (ty := op.type) hu hte hz hzl hpos rfl rfl hr (fun _ => False) (fun j b e => ⟨e, fun f => f⟩) (.slice none 0 0) [] .nil ⟨by simp, .inl ⟨rfl, rfl⟩⟩
                        (fun j p _ _ _ => by simp [Value.ownBlock]) (fun b e => by simp [Value.ownBlock] at e) hb
                  · cases hr
                · rename_i id n c e' id2 off m c2 e2 hv1 hv2
                  split at hr
                  · rename_i hee
                    simp only [Bool.and_eq_true] at hee
                    have hee1 := Nat.eq_of_beq_eq_true hee.1
                    subst hee1
                    split at hr
                    · cases hr
                    · rename_i blk hblk
                      split at hr
                      · rename_i hbe
                        simp only [Bool.and_eq_true, Nat.ble_eq] at hbe
                        have hbe1 := Nat.eq_of_beq_eq_true hbe.1
                        have hbe2 := hbe.2
                        have e1 := ev_sound A hx hv1
                        have e2 := ev_sound A hy hv2
                        refine more ?_
                        generalize a.eval x = vx at e1 ⊢
                        generalize a.eval y = vy at e2 ⊢
                        cases e1 with
                        | sl _ _ _ _ _ b1 t1 c1 hb1 hcc1 ht1 hm1 hex1 hn1 =>
                          cases e2 with
                          | sl _ _ _ _ _ b tt c' hb hcc ht hm hex hn =>
                            obtain ⟨g, cur, g1, g2, g3, g4, g5⟩ := H.at_ id blk hblk
                            rw [hb1] at g1
                            injection g1 with g1
                            injection g1 with g1 g1'
                            subst g1
                            subst hbe1
                            have htk := g5.take (n * te.size)
                            rw [List.take_take, Nat.min_eq_left hbe2] at htk
                            refine add_sound H F he (t := t) (ty := op.type) hu hte hz hzl hpos rfl rfl hr (fun j => j = id) (fun j bj e => ?_) (.slice (some ⟨b1, 0, none⟩) n c1) (cur.toList.take (n * te.size)) htk ?_ ?_ ?_ hb
                            · rw [T.get_del] at e
                              split at e
                              · cases e
                              · rename_i hne
                                exact ⟨e, hne⟩
                            · refine ⟨by simp; omega, .inr ⟨b1, c1, cur, rfl, Nat.zero_le _, g2, by omega, hm1, by omega, rfl⟩⟩
                            · intro j p hj hp hne heq
                              simp only [Value.ownBlock, Option.some.injEq] at heq
                              exact hne (H.inj j id p _ hj (by simp [hblk]) hp hb1 heq)
                            · intro bb hbb
                              simp only [Value.ownBlock, Option.some.injEq] at hbb
                              exact ⟨id, _, by simp [hblk], hb1, hbb⟩
                      · cases hr
                  · cases hr
                · cases hr
              · cases hk
            · cases hk
          · cases hk
        · cases hk
      · cases hk
    · cases hk
  · cases hk
end
/-! ### 13b. Bytes to a text -/
inductive VK where
  | str (x : AO)
  | arr (n e : Nat) (x : AO) (lo hi : Option AO)
  deriving Inhabited
def bytesOf : List AV → Option (List Nat)
  | [] => some []
  | .int .u8 (.ofNat n) :: l => match Nat.blt n 256, bytesOf l with
    | true, some r => some (n :: r)
    | _, _ => none
  | _ => none
def VK.ev (tm : T AV) (h : T Blk) (k : VK) : Option AV :=
  match k with
  | .str x => match x.ev tm with
    | some .nils => some (.str [])
    | some (.sl id off n _ e) => match Nat.beq e 1 with
      | true => match cellsAt h id off n 1 with
        | some cs => match bytesOf cs with
          | some l => some (.str l)
          | none => none
        | none => none
      | false => none
    | _ => none
  | .arr n e x lo hi => match x.ev tm, evo tm lo, evo tm hi with
    | some (.ptr id 0), some lo, some hi => match natOr 0 lo, natOr n hi with
      | some l, some u => match h.get id with
        | some blk => match Nat.ble l u && (Nat.ble u n && (Nat.blt l n && (Nat.ble n 1000000 && (Nat.beq (id % 2) 0 && Nat.beq blk.cells.length (n * e))))) with
          | true => some (.sl id (l * e) (u - l) (n - l) e)
          | false => none
        | none => none
      | _, _ => none
    | _, _, _ => none
def compV (P : Program) : Op → Option VK
  | .convert src dst x => match P.underlying src, P.underlying dst with
    | some (.slice e), some .string => match P.underlying e with
      | some (.int .u8) => (compO x).map VK.str
      | _ => none
    | _, _ => none
  | .slice t x lo hi none => match P.underlying t, compO x, compOo lo, compOo hi with
    | some (.array n el), some ax, some alo, some ahi => match tyOf P el with
      | some te => some (.arr n te.size ax alo ahi)
      | none => none
    | _, _, _, _ => none
  | _ => none
theorem bytesOf_sound {ρ : Ren} : ∀ {as : List AV} {vs : List Value} {l : List Nat}, bytesOf as = some l → VRL ρ as vs → vs = (l.map Int.ofNat).map (Value.int .u8) ∧ ∀ n ∈ l, n < 256
  | [], _, l, h, .nil => by
    simp only [bytesOf, Option.some.injEq] at h
    subst h
    exact ⟨rfl, by simp⟩
  | a :: as, _, l, h, .cons _ b _ bs e es => by
    unfold bytesOf at h
    split at h
    · rename_i hnil
      cases hnil
    · rename_i n l' hc
      injection hc with hc1 hc2
      subst hc1 hc2
      split at h
      · rename_i r hlt hr
        injection h with h
        subst h
        have hlt := of_eq_true_ hlt
        obtain ⟨g1, g2⟩ := bytesOf_sound hr es
        cases e
        subst g1
        refine ⟨rfl, fun m hm => ?_⟩
        rcases List.mem_cons.1 hm with hm | hm
        · rw [hm]; exact hlt
        · exact g2 m hm
      · cases h
    · cases h
theorem fold_push : ∀ (ns : List Int) (acc : ByteArray), (ns.foldl (fun r n => r.push (UInt8.ofNat n.toNat)) acc).data.toList = acc.data.toList ++ ns.map (fun n => UInt8.ofNat n.toNat)
  | [], acc => by simp
  | n :: ns, acc => by
    rw [List.foldl_cons, fold_push ns]
    simp [ByteArray.push]
theorem fold_empty [Glo] (ns : List Int) : (ns.foldl (fun r n => r.push (UInt8.ofNat n.toNat)) ByteArray.empty).data.toList = ns.map (fun n => UInt8.ofNat n.toNat) := by
  rw [fold_push]
  rfl
theorem nats_back : ∀ {l : List Nat}, (∀ n ∈ l, n < 256) → ((l.map Int.ofNat).map (fun n => UInt8.ofNat n.toNat)).map UInt8.toNat = l
  | [], _ => rfl
  | n :: l, h => by
    have h1 : n < 256 := h n (by simp)
    simp only [List.map_cons]
    rw [nats_back (fun m hm => h m (by simp [hm]))]
    congr 1
    show (UInt8.ofNat (Int.ofNat n).toNat).toNat = n
    rw [show (Int.ofNat n).toNat = n from rfl, UInt8.toNat_ofNat']
    exact Nat.mod_eq_of_lt h1
theorem conv_sound [Glo] {P : Program} {o : Op} {k : VK} (hk : compV P o = some k) {ρ : Ren} {tm : T AV} {a : Act} (A : AR ρ tm a.tmps) {h : T Blk} {w : World} (H : HR ρ h.get w) {r : AV} (hr : k.ev tm h = some r) (op : Oper) (ho : op.op = o) :
    ∃ v, (execOp a.eval op).run P w = .ok (.value v) w ∧ VR ρ r v := by
  unfold execOp
  rw [ho]
  unfold compV at hk
  split at hk
  · rename_i src dst x
    split at hk
    · rename_i e hs hd
      split at hk
      · rename_i he
        obtain ⟨ax, hx, rfl⟩ := Option.map_eq_some_iff.1 hk
        simp only [VK.ev] at hr
        split at hr
        · rename_i hv
          injection hr with hr
          subst hr
          have h1 := ev_sound A hx hv
          simp only
          generalize a.eval x = vx at h1 ⊢
          cases h1
          refine ⟨.string .empty, ?_, VR.str (ρ := ρ) ByteArray.empty⟩
          simp [convert, run_underlying hs, run_underlying hd, run_underlying he, Conv.bytesToString]
        · rename_i id off n c e' hv
          split at hr
          · split at hr
            · rename_i cs hcs
              split at hr
              · rename_i l hl
                injection hr with hr
                subst hr
                have h1 := ev_sound A hx hv
                simp only
                generalize a.eval x = vx at h1 ⊢
                cases h1 with
                | sl _ _ _ _ _ b t c' hb hcc ht hm hex hn =>
                  obtain ⟨hnl, vs, hns, hcell⟩ := cellsAt_sound H hcs hb
                  obtain ⟨g1, g2⟩ := bytesOf_sound hl hns
                  have hlen : vs.length = n := by rw [← hns.length, hnl, Nat.mul_one]
                  have hload : (loadCells ⟨b, off, none⟩ n).run P w = .ok ((l.map Int.ofNat).map (Value.int .u8)).toArray w := by
                    have := run_loadCells_list (P := P) (w := w) ⟨b, off, none⟩ vs hcell
                    rw [hlen, g1] at this
                    exact this
                  have hrun := run_bytesToString (P := P) w ⟨b, off, none⟩ n c' _ hload
                  refine ⟨.string ((l.map Int.ofNat).foldl (fun r n => r.push (UInt8.ofNat n.toNat)) ByteArray.empty), ?_, ?_⟩
                  · simp [convert, run_underlying hs, run_underlying hd, run_underlying he, hrun]
                  · have := VR.str (ρ := ρ) ((l.map Int.ofNat).foldl (fun r n => r.push (UInt8.ofNat n.toNat)) ByteArray.empty)
                    rw [fold_empty, nats_back g2] at this
                    exact this
              · cases hr
            · cases hr
          · cases hr
        · cases hr
      · cases hk
    · cases hk
  · rename_i t x lo hi
    split at hk
    · rename_i n el ax alo ahi hu hx hlo hhi
      split at hk
      · rename_i te hte
        · skip
          injection hk with hk
          subst hk
          simp only [VK.ev] at hr
          split at hr
          · rename_i id lv hv h1 h2 h3
            split at hr
            · rename_i l u hl hh
              split at hr
              · rename_i blk hb
                split at hr
                · rename_i hc
                  injection hr with hr
                  subst hr
                  simp only [Bool.and_eq_true, Nat.ble_eq] at hc
                  obtain ⟨c1, c2, c3, c4, c5, c6⟩ := hc
                  have c3 := of_eq_true_ c3
                  have c5 := Nat.eq_of_beq_eq_true c5
                  have c6 := Nat.eq_of_beq_eq_true c6
                  have e1 := ev_sound A hx h1
                  have b1 := bound_sound A hlo h2 hl
                  have b2 := bound_sound A hhi h3 hh
                  simp only
                  generalize a.eval x = vx at e1 ⊢
                  generalize lo.map a.eval = vlo at b1 ⊢
                  generalize hi.map a.eval = vhi at b2 ⊢
                  cases e1 with
                  | ptr _ _ b t' hρ =>
                    obtain ⟨b', c, g1, g2, g3, g4, g5⟩ := H.at_ id blk hb
                    rw [hρ] at g1
                    injection g1 with g1
                    injection g1 with g1 g1'
                    subst g1
                    have g4 := g4 c5
                    have hs := (tyOf_ok hte).run_size w
                    have hb2 : (match (generalizing := false) vhi with
                        | some v => Instr.sliceBound v n .sliceAlen
                        | none => pure n : Sem Nat).run P w = .ok u w := by
                      rcases b2 with ⟨rfl, rfl⟩ | ⟨k2, rfl⟩
                      · rfl
                      · have : (0 : Int) ≤ Int.ofNat u ∧ Int.ofNat u ≤ (n : Int) := ⟨by simp, by simp; omega⟩
                        simp only [Instr.sliceBound, asIntOf, Sem.run_bind, Sem.run_pure, Result.andThen_ok]
                        rw [if_pos this]
                        rfl
                    have hb1 : (match (generalizing := false) vlo with
                        | some v => Instr.sliceBound v u .sliceB
                        | none => pure 0 : Sem Nat).run P w = .ok l w := by
                      rcases b1 with ⟨rfl, rfl⟩ | ⟨k2, rfl⟩
                      · rfl
                      · have : (0 : Int) ≤ Int.ofNat l ∧ Int.ofNat l ≤ (u : Int) := ⟨by simp, by simp; omega⟩
                        simp only [Instr.sliceBound, asIntOf, Sem.run_bind, Sem.run_pure, Result.andThen_ok]
                        rw [if_pos this]
                        rfl
                    have hsb : (Instr.sliceBounds false n n vlo vhi none).run P w = .ok (l, u, n) w := by
                      unfold Instr.sliceBounds
                      simp only [Sem.run_bind, Sem.run_pure, Result.andThen_ok, Option.isSome_none, Bool.false_eq_true, if_false]
                      cases vhi with
                      | none =>
                        have e2 : n = u := by simpa using hb2
                        subst e2
                        cases vlo with
                        | none =>
                          have e1 : 0 = l := by simpa using hb1
                          subst e1
                          simp
                        | some v1 =>
                          simp only at hb1
                          simp [hb1]
                      | some v2 =>
                        simp only at hb2
                        cases vlo with
                        | none =>
                          have e1 : 0 = l := by simpa using hb1
                          subst e1
                          simp [hb2]
                        | some v1 =>
                          simp only at hb1
                          simp [hb1, hb2]
                    have hmul : l * te.size + (n - l) * te.size = t' := by
                      rw [g1', ← g4, c6, ← Nat.add_mul, show l + (n - l) = n by omega]
                    refine ⟨.slice (some ⟨b, 0 + l * te.size, none⟩) (u - l) (n - l), ?_, ?_⟩
                    · have hne : ¬ n = l := by omega
                      simp only [Instr.sliceAt, Instr.slice, Sem.run_bind, run_underlying hu, Result.andThen_ok, Instr.sureAddr, Option.map_none, hsb, hs, Sem.run_pure, add_plain, if_neg hne]
                    · have := VR.sl (ρ := ρ) id (l * te.size) (u - l) (n - l) te.size b t' (n - l) hρ (Nat.le_refl _) hmul (by simp only [maxLen]; omega) (fun _ => rfl) (by omega)
                      rw [Nat.zero_add]
                      exact this
                · cases hr
              · cases hr
            · cases hr
          · cases hr
      · cases hk
    · cases hk
  · cases hk
end
end Go.Proofs.YtdndcigppbhhdaaDoorAM
