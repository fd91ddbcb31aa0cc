/- A call: all that is lent, all that is shown. -/
import Derived.Test.YtmpnmcnjhpekaaaGh29
set_option linter.unusedSimpArgs false
namespace Go.Proofs.Gh
open Go.RowKit
section
variable {P : Program} {E : Env} {B : Base} {γ : Nat → Bx} {st : Nat → Prop} {ow : Nat → Option Ow} {hand : List (Value × C)} {σ σ0 : St} {w : World} {r : Res} {tmps : Array Value}

theorem zip_nests {us : List Value} {ds : List C} (h : ∀ d ∈ ds, d.Nests) : ∀ x ∈ us.zip ds, x.2.Nests := fun x hx => h x.2 (List.of_mem_zip (show (x.1, x.2) ∈ us.zip ds from hx)).2
theorem lendK_ok {bxs : List Nat} {m : Mode} {x : S} {u : Value} {k : S → St → Option Res} (R : Rel B γ st ow hand σ tmps w) (hn : σ.boxes.length = σ0.boxes.length) (hs : SlotOk σ0 st γ w u x) (hk0 : ∀ i, (∀ ms xs, i ∈ boxesOf (m :: ms) (x :: xs)) → σ.boxes[i]? = σ0.boxes[i]?) (h : lendK bxs σ m x k = some r) :
    ∃ y σ' ow' hs gs, k y σ' = some r ∧ Rel B γ st ow' (hand ++ hs) σ' tmps w ∧ LentA σ0 st γ w bxs m x u y hs gs ∧ (∀ z ∈ hs, z.2.Nests) ∧ (∀ ms xs, boxesOf (m :: ms) (x :: xs) = gs ++ boxesOf ms xs) ∧ BoxesTo bxs gs σ σ' := by
  have hid : BoxesTo bxs [] σ σ := ⟨rfl, fun _ _ _ => rfl, fun _ h => by cases h⟩
  -- a cell alone
  have hone : ∀ {c : C}, x = .one c → m ≠ .ro → (∀ ms xs, boxesOf (m :: ms) (x :: xs) = boxesOf ms xs) → (lendCellK bxs σ c fun d σ => k (.one d) σ) = some r →
      ∃ y σ' ow' hs gs, k y σ' = some r ∧ Rel B γ st ow' (hand ++ hs) σ' tmps w ∧ LentA σ0 st γ w bxs m x u y hs gs ∧ (∀ z ∈ hs, z.2.Nests) ∧ (∀ ms xs, boxesOf (m :: ms) (x :: xs) = gs ++ boxesOf ms xs) ∧ BoxesTo bxs gs σ σ' := fun {c} hx hm hbo hh => by
    subst hx
    have hc : Pre σ.boxes.length st γ w u c := by rw [hn]; exact (slot_one hs).pre
    obtain ⟨d, σ1, ow1, h1, R1, hb1, hl1, ho1⟩ := lendCell_ok R hc hh
    rcases ho1 with ho | ⟨rfl, rfl, hr, hd⟩
    · refine ⟨_, σ1, ow1, _, [], h1, R1, .own m c u d hm hl1 ho, fun z hz => ?_, hbo, hb1⟩
      have : z = (u, d) := by simpa using hz
      subst this
      obtain ⟨nl, sz, es, rfl⟩ := own_slB ho
      exact .inl rfl
    · obtain ⟨ow2, R2⟩ := R1.drop
      exact ⟨_, _, ow2, [], [], h1, by simpa using R2, .val m u c hm hd hr, by simp, hbo, hb1⟩
  have hagg : ∀ {cs : List C}, x = .agg cs → m ≠ .ro → (∀ ms xs, boxesOf (m :: ms) (x :: xs) = boxesOf ms xs) → (lendCellsK bxs σ cs fun ds σ => k (.agg ds) σ) = some r →
      ∃ y σ' ow' hs gs, k y σ' = some r ∧ Rel B γ st ow' (hand ++ hs) σ' tmps w ∧ LentA σ0 st γ w bxs m x u y hs gs ∧ (∀ z ∈ hs, z.2.Nests) ∧ (∀ ms xs, boxesOf (m :: ms) (x :: xs) = gs ++ boxesOf ms xs) ∧ BoxesTo bxs gs σ σ' := fun {cs} hx hm hbo hh => by
    subst hx
    cases hs with
    | agg us _ hl hc =>
      obtain ⟨ds, σ1, ow1, h1, R1, hb1, hl1, hlc, hnn⟩ := lendCells_ok cs us R hl (fun i u c hu hcs => by rw [hn]; exact (hc i u c hu hcs).pre) hh
      exact ⟨_, σ1, ow1, _, [], h1, R1, .agg m cs us ds hm hl hl1 hlc, zip_nests hnn, hbo, hb1⟩
  unfold lendK at h
  split at h
  · exact ⟨x, σ, ow, [], [], h, by simpa using R, .ro x u hs, by simp, fun ms xs => by simp [boxesOf], hid⟩
  · rename_i p
    unfold lendBoxK at h
    split at h
    · rename_i hk hst
      rw [Option.bind_eq_some_iff] at h
      obtain ⟨b, hb, h⟩ := h
      split at h
      · rename_i hcond
        obtain ⟨hfr, hnest⟩ := hcond
        obtain ⟨us, ow', hl, hv, R'⟩ := R.emptyBox hb
        obtain ⟨pr, pk, ps⟩ := p
        simp only at hk hst hb h R' hv
        subst hk hst
        have hrep : ∃ g o, u = .pointer (some ⟨g, o, none⟩) ∧ γ pr = .mem g o := by
          cases slot_one hs with
          | rep _ _ h => cases h with
            | box _ _ _ g o _ h1 h2 => exact ⟨g, o, rfl, h2⟩
          | pl _ before s _ _ hss => simp at hss
        obtain ⟨g, o, rfl, hg⟩ := hrep
        obtain ⟨bf, bcs⟩ := b
        simp only at hfr hnest h R' hl hb
        subst hfr
        refine ⟨_, _, ow', us.zip bcs, [pr], h, R',   .bx pr g o us bcs ⟨_, (hk0 pr (fun ms xs => by simp [boxesOf])).symm.trans hb, rfl⟩ hg hl (fun k u hu => ?_), zip_nests (fun d hd => .inr (List.all_eq_true.1 hnest d hd)), fun ms xs => by simp [boxesOf], ?_⟩
        · have := hv k u hu
          unfold cellV at this
          rw [hg] at this; exact this
        · have hlt : pr < σ.boxes.length := (List.getElem?_eq_some_iff.1 hb).1
          refine ⟨by simp [St.kill], fun i _ hn => ?_, fun i hi => ?_⟩
          · simp only [St.kill]
            exact List.getElem?_set_ne (fun e => hn (by simp [e]))
          · have : i = pr := by simpa using hi
            subst this
            exact ⟨_, hb, by simp [St.kill, hlt]⟩
      · cases h
    · cases h
  · rename_i c hm hnp
    have hm' : m ≠ .ro := fun e => by first | exact hm e | (subst e; exact hm.elim) | (subst e; exact hm rfl)
    refine hone rfl hm' (fun ms xs => ?_) h
    cases m with
    | ro => exact absurd rfl hm'
    | tk => simp [boxesOf]
    | io => cases c <;> first | (exact absurd rfl (hnp _ rfl)) | simp [boxesOf]
  · rename_i cs hm
    have hm' : m ≠ .ro := fun e => by first | exact hm e | (subst e; exact hm.elim) | (subst e; exact hm rfl)
    refine hagg rfl hm' (fun ms xs => ?_) h
    cases m <;> simp [boxesOf]
  · cases h
inductive LentAll (σ0 : St) (st : Nat → Prop) (γ : Nat → Bx) (w : World) (bxs : List Nat) : List Mode → List S → List Value → List S → List (Value × C) → List Nat → Prop
  | nil : LentAll σ0 st γ w bxs [] [] [] [] [] []
  | cons {m x u y hs gs ms xs us ys hs' gs'} : LentA σ0 st γ w bxs m x u y hs gs → LentAll σ0 st γ w bxs ms xs us ys hs' gs' → LentAll σ0 st γ w bxs (m :: ms) (x :: xs) (u :: us) (y :: ys) (hs ++ hs') (gs ++ gs')
theorem lendsK_ok {bxs : List Nat} : ∀ (ms : List Mode) (xs : List S) (us : List Value) {ow : Nat → Option Ow} {hand : List (Value × C)} {σ : St} {k : List S → St → Option Res}, Rel B γ st ow hand σ tmps w → σ.boxes.length = σ0.boxes.length → us.length = xs.length →
    (∀ (i : Nat) (u : Value) (x : S), us[i]? = some u → xs[i]? = some x → SlotOk σ0 st γ w u x) → (boxesOf ms xs).Nodup → (∀ i ∈ boxesOf ms xs, i ∈ bxs) → (∀ i ∈ boxesOf ms xs, σ.boxes[i]? = σ0.boxes[i]?) → lendsK bxs σ ms xs k = some r →
    ∃ ys σ' ow' hs, k ys σ' = some r ∧ Rel B γ st ow' (hand ++ hs) σ' tmps w ∧ LentAll σ0 st γ w bxs ms xs us ys hs (boxesOf ms xs) ∧ (∀ z ∈ hs, z.2.Nests) ∧ BoxesTo bxs (boxesOf ms xs) σ σ'
  | [], [], us, ow, hand, σ, k, R, hn, hl, hs, hnd, hsub, hk0, h => by
    have : us = [] := List.eq_nil_of_length_eq_zero hl
    subst this
    exact ⟨[], σ, ow, [], h, by simpa using R, .nil, by simp, ⟨rfl, fun _ _ _ => rfl, fun _ h => by cases h⟩⟩
  | m :: ms, x :: xs, us, ow, hand, σ, k, R, hn, hl, hs, hnd, hsub, hk0, h => by
    cases us with
    | nil => simp at hl
    | cons u us =>
      unfold lendsK at h
      obtain ⟨y, σ1, ow1, hs1, gs, h1, R1, hla, hn1, hbo, hb1⟩ := lendK_ok R hn (hs 0 u x rfl rfl) (fun i hi => hk0 i (hi ms xs)) h
      rw [hbo] at hnd hsub hk0 ⊢
      rw [List.nodup_append] at hnd
      obtain ⟨ys, σ2, ow2, hs2, h2, R2, hla2, hn2, hb2⟩ := lendsK_ok ms xs us R1 (hb1.len.trans hn) (by simpa using hl) (fun i u x hu hx => hs (i + 1) u x (by simpa using hu) (by simpa using hx)) hnd.2.1 (fun i hi => hsub i (List.mem_append_right _ hi)) (fun i hi => (hb1.kept i (hsub i (List.mem_append_right _ hi)) (fun hi' => hnd.2.2 i hi' i hi rfl)).trans (hk0 i (List.mem_append_right _ hi))) h1
      refine ⟨y :: ys, σ2, ow2, hs1 ++ hs2, h2, by rw [← List.append_assoc]; exact R2, .cons hla hla2, fun z hz => ?_, hb1.trans hb2 (fun i hi => ⟨hsub i (List.mem_append_left _ hi), fun hi' => hnd.2.2 i hi i hi' rfl⟩) (fun i hi => ⟨hsub i (List.mem_append_right _ hi), fun hi' => hnd.2.2 i hi' i hi rfl⟩)⟩
      rcases List.mem_append.1 hz with hz | hz
      · exact hn1 z hz
      · exact hn2 z hz
  | [], _ :: _, us, ow, hand, σ, k, R, hn, hl, hs, hnd, hsub, hk0, h => by simp [lendsK] at h
  | _ :: _, [], us, ow, hand, σ, k, R, hn, hl, hs, hnd, hsub, hk0, h => by simp [lendsK] at h

/-! ### What is shown -/
/-- The blocks that stay while a call runs. -/
def stays (keeps : Bool) (lent : List Nat) (st : Nat → Prop) (ow : Nat → Option Ow) : Nat → Prop := fun b => st b ∨ (keeps = false ∧ ((∃ r k, ow b = some (.cell r k)) ∨ ∃ r, ow b = some (.box r) ∧ r ∉ lent))
theorem freezeRow_back {cs : List C} : ∀ {j : Nat} {c : C}, ((freezeRow cs).map C.weak)[j]? = some c → ∃ d, cs[j]? = some d ∧ c = d.freeze.weak := fun {j c} h => by
  rw [List.getElem?_map, Option.map_eq_some_iff] at h
  obtain ⟨c0, h, rfl⟩ := h
  obtain ⟨d, h1, h2⟩ := freezeRow_get cs j c0 h
  exact ⟨d, h1, h2.symm ▸ rfl⟩
theorem showCap_ok {keeps : Bool} {lent : List Nat} {u : Value} {c : C} {k : C → Option Res} {γ' : Nat → Bx} {n : Nat} (R : Rel B γ st ow hand σ tmps w) (hr : Rep st γ w n u c (fun _ => False)) (h : showCapK keeps lent σ c k = some r) :
    ∃ d, k d = some r ∧ Rep (stays keeps lent st ow) γ' w 0 u d (fun _ => False) := by
  have hst : ∀ b, st b → stays keeps lent st ow b := fun b hb => .inl hb
  unfold showCapK at h
  split at h
  · cases hr with
    | v _ _ _ h1 => exact ⟨_, h, .v _ _ _ h1⟩
  · cases hr with
    | nil _ _ _ _ _ h1 => exact ⟨_, h, .nil _ _ _ _ _ h1⟩
    | ro _ a cap _ _ _ us _ h1 h2 h3 h4 h5 h6 h7 => exact ⟨_, h, .ro _ _ _ _ _ _ us _ h1 (fun he => hst _ (h2 he)) h3 h4 h5 h6 (fun i row j c hi hj => (h7 i row j c hi hj).frame hst (Nat.le_refl _) (fun r hr => absurd hr (Nat.not_lt_zero r)) (fun _ _ => rfl))⟩
  · cases hr with
    | rp _ ad _ us _ h1 h2 h3 => exact ⟨_, h, .rp _ ad _ us _ (fun he => hst _ (h1 he)) h2 (fun j c hj => (h3 j c hj).frame hst (Nat.le_refl _) (fun r hr => absurd hr (Nat.not_lt_zero r)) (fun _ _ => rfl))⟩
  · rename_i q
    split at h
    · cases h
    · rename_i hk
      simp only [Bool.or_eq_true, not_or, Bool.not_eq_true, List.contains_eq_mem, decide_eq_false_iff_not] at hk
      obtain ⟨b, hb, h⟩ := Option.bind_eq_some_iff.1 h
      split at h
      · rename_i hall
        cases hr with
        | box _ _ _ g o _ h1 h2 =>
          obtain ⟨_, how, _⟩ := R.mem q b g o hb h2
          have hcell : ∀ (j : Nat) (d : C), b.cs[j]? = some d → ∃ u, w.cell? ⟨g, o + j, none⟩ = some u ∧ Rep st γ w σ.boxes.length u d (fun b => ow b = some (.cell q j)) := fun j d hj => by
            obtain ⟨u, hu, hr⟩ := R.cells q j d (by unfold St.root; rw [hb]; exact hj)
            unfold cellV at hu
            rw [h2] at hu
            exact ⟨u, hu, hr⟩
          refine ⟨_, h, .rp _ ⟨g, o + 0, none⟩ _ (fun j => (w.cell? ⟨g, o + j, none⟩).getD undef) _ (fun _ => .inr ⟨hk.1, .inr ⟨q, how, hk.2⟩⟩) (fun j c hj => ?_) (fun j c hj => ?_)⟩
          · obtain ⟨d, hd, rfl⟩ := freezeRow_back hj
            obtain ⟨u, hu, _⟩ := hcell j d hd
            rw [add_lit, Nat.add_zero, hu]; rfl
          · obtain ⟨d, hd, rfl⟩ := freezeRow_back hj
            obtain ⟨u, hu, hr⟩ := hcell j d hd
            rw [hu]
            have h0 := hr.nest (.inr (List.all_eq_true.1 hall d (List.mem_of_getElem? hd)))
            have := h0.freeze (st' := stays keeps lent st ow) rfl hst (fun b hb => .inr ⟨hk.1, .inl ⟨_, _, hb⟩⟩)
            exact (this.frame (fun _ h => h) (Nat.le_refl _) (fun r hr => absurd hr (Nat.not_lt_zero r)) (fun _ _ => rfl)).weak
      · cases h
  · cases h
theorem showCaps_ok {keeps : Bool} {lent : List Nat} {γ' : Nat → Bx} {n : Nat} (R : Rel B γ st ow hand σ tmps w) : ∀ (cs : List C) (us : List Value) {k : List C → Option Res}, us.length = cs.length → (∀ (i : Nat) (c : C) (u : Value), cs[i]? = some c → us[i]? = some u → Rep st γ w n u c (fun _ => False)) → showCapsK keeps lent σ cs k = some r →
    ∃ ds, k ds = some r ∧ us.length = ds.length ∧ ∀ (i : Nat) (d : C) (u : Value), ds[i]? = some d → us[i]? = some u → Rep (stays keeps lent st ow) γ' w 0 u d (fun _ => False)
  | [], us, k, hl, _, h => by
    have : us = [] := List.eq_nil_of_length_eq_zero hl
    subst this
    exact ⟨[], h, rfl, by simp⟩
  | c :: cs, us, k, hl, hc, h => by
    cases us with
    | nil => simp at hl
    | cons u us =>
      unfold showCapsK at h
      obtain ⟨d, h1, hd⟩ := showCap_ok (γ' := γ') R (hc 0 c u rfl rfl) h
      obtain ⟨ds, h2, hl2, hds⟩ := showCaps_ok (γ' := γ') R cs us (by simpa using hl) (fun i c u hcs hu => hc (i + 1) c u (by simpa using hcs) (by simpa using hu)) h1
      refine ⟨d :: ds, h2, by simpa using hl2, fun i d' u' hd' hu => ?_⟩
      cases i with
      | zero => simp only [List.getElem?_cons_zero, Option.some.injEq] at hu hd'; subst hu hd'; exact hd
      | succ i => exact hds i d' u' (by simpa using hd') (by simpa using hu)
/-- What is only read, cut. -/
theorem Rep.cutRo {st : Nat → Prop} {γ : Nat → Bx} {w : World} {n : Nat} {ad : Option Addr} {len cap sz l m : Nat} {nl : Option Bool} {es : List (List C)} {X : Nat → Prop} (h : Rep st γ w n (.slice ad len cap) (.sl false nl sz es) X) (hlm : l ≤ m) (hml : m ≤ len) :
    Rep st γ w n (.slice (if cap = l then ad else ad.map (·.add (l * sz))) (m - l) (cap - l)) (.sl false (cutNl nl) sz ((es.take m).drop l)) X := by
  cases h with
  | nil _ _ _ _ _ h1 =>
    obtain ⟨rfl, rfl⟩ : l = 0 ∧ m = 0 := by omega
    simpa using Rep.nil _ _ _ _ _ (cut_nl.2 h1)
  | ro _ ad _ _ _ _ us _ h1 h2 h3 h4 h5 h6 h7 =>
    have hlen : ((es.take m).drop l).length = m - l := by simp; omega
    rw [← hlen]
    by_cases hcl : cap = l
    · rw [if_pos hcl]
      have h0 : (es.take m).drop l = [] := List.eq_nil_of_length_eq_zero (by rw [hlen]; omega)
      rw [h0]
      exact Rep.ro _ ad _ sz _ [] us _ cut_nl.1 (fun h => absurd rfl h) (by simp) (by simp only [maxLen] at h4 ⊢; omega) (by simp) (by simp) (by simp)
    · rw [if_neg hcl]
      refine Rep.ro _ (ad.add (l * sz)) _ sz _ _ (fun i j => us (l + i) j) _ cut_nl.1 (fun h => ?_) (by rw [hlen]; omega) (by simp only [maxLen] at h4 ⊢; omega) (fun i row hi => h5 _ _ (cut_cells hi)) (fun i row j c hi hj => ?_) (fun i row j c hi hj => h7 _ _ _ _ (cut_cells hi) hj)
      · rw [add_block]; exact h2 (fun e => h (by subst e; simp))
      · rw [add_add, ← h6 _ _ _ _ (cut_cells hi) hj]
        congr 2
        rw [Nat.add_mul]; omega
theorem showCell_ok {keeps : Bool} {lent : List Nat} {u : Value} {c : C} {k : C → Option Res} {γ' : Nat → Bx} (R : Rel B γ st ow hand σ tmps w) (hc : CellOk σ0 st γ w u c) (h : showCellK keeps lent σ c k = some r) :
    ∃ d, k d = some r ∧ CellOk ⟨[], []⟩ (stays keeps lent st ow) γ' w u d := by
  have hst : ∀ b, st b → stays keeps lent st ow b := fun b hb => .inl hb
  unfold showCellK at h
  split at h
  · rename_i p
    split at h
    · cases h
    · rename_i hk
      have hk' : keeps = false := by simpa using hk
      rw [nodeK_eq, Option.bind_eq_some_iff] at h
      obtain ⟨d, hd, h⟩ := h
      split at h
      · rename_i hn
        obtain ⟨_, _, v, Z, n, _, _, hv, hr, hnl, hZ, _⟩ := R.node hd
        have hpre : placeV γ w p = some u := hc.pre
        rw [hpre] at hv; cases hv
        have h0 := hr.nest (.inr hn)
        have := h0.freeze (st' := stays keeps lent st ow) rfl hst (fun b hb => .inr ⟨hk', .inl ⟨_, _, hZ b hb⟩⟩)
        exact ⟨_, h, .rep _ _ (this.frame (fun _ h => h) (Nat.le_refl _) (fun r hr => absurd hr (Nat.not_lt_zero r)) (fun _ _ => rfl))⟩
      · cases h
  · rename_i p sz l m
    split at h
    · cases h
    · rename_i hk
      have hk' : keeps = false := by simpa using hk
      rw [nodeK_eq, Option.bind_eq_some_iff] at h
      obtain ⟨d, hd, h⟩ := h
      split at h
      · rename_i hn
        cases hc with
        | rep _ _ hr => cases hr
        | wi _ _ _ _ len cap ad hal hlm hml =>
          obtain ⟨_, _, v, Z, n, _, _, hv, hr, hnl, hZ, _⟩ := R.node hd
          have hpre : placeV γ w p = some (.slice ad len cap) := hal.pre
          rw [hpre] at hv; cases hv
          have h0 := hr.nest (.inr hn)
          have := h0.freeze (st' := stays keeps lent st ow) rfl hst (fun b hb => .inr ⟨hk', .inl ⟨_, _, hZ b hb⟩⟩)
          split at h
          · rename_i nl sz' es hfz
            split at h
            · rename_i hsz
              subst hsz
              rw [hfz] at this
              refine ⟨_, h, .rep _ _ ?_⟩
              exact (this.cutRo hlm hml).frame (fun _ h => h) (Nat.le_refl _) (fun r hr => absurd hr (Nat.not_lt_zero r)) (fun _ _ => rfl)
            · cases h
          · cases h
      · cases h
  · rename_i o nl sz es
    have hr := cell_sl hc
    refine ⟨_, h, .rep _ _ ?_⟩
    cases hr with
    | nil _ _ _ _ _ h1 => exact .nil _ _ _ _ _ h1
    | ro _ a cap _ _ _ us _ h1 h2 h3 h4 h5 h6 h7 => exact .ro _ _ _ _ _ _ us _ h1 (fun he => hst _ (h2 he)) h3 h4 h5 h6 (fun i row j c hi hj => (h7 i row j c hi hj).frame hst (Nat.le_refl _) (fun r hr => absurd hr (Nat.not_lt_zero r)) (fun _ _ => rfl))
    | own _ g o cap _ _ _ us Xs e cur _ h1 h2 => exact h2.elim
  · rename_i f cs
    cases hc with
    | rep _ _ hr =>
      cases hr with
      | fn _ _ _ us _ h1 h2 =>
        obtain ⟨ds, e1, e2, e3⟩ := showCaps_ok (γ' := γ') R cs us h1 h2 h
        exact ⟨_, e1, .rep _ _ (.fn _ _ _ _ _ e2 e3)⟩
  · rename_i p
    have hr : ∃ m, Rep st γ w m u (.pl p) (fun _ => False) := by
      cases hc with
      | rep _ _ hr => exact ⟨_, hr⟩
      | pl _ before s d ad hs =>
        exfalso
        obtain ⟨q, k, ss⟩ := p
        simp only at hs
        subst hs
        unfold showCapK at h
        split at h
        · rename_i e; cases e
        · rename_i e; cases e
        · rename_i e; cases e
        · rename_i e; simp at e
        · cases h
    obtain ⟨m, hr⟩ := hr
    obtain ⟨d, e1, e2⟩ := showCap_ok (γ' := γ') R hr h
    exact ⟨d, e1, .rep _ _ e2⟩
  · cases h
  · cases h
  · cases h
  · rename_i g1 g8 g2 g3 g4 g5 g6 g7
    refine ⟨c, h, ?_⟩
    cases hc with
    | unk => exact .unk _
    | rep _ _ hr =>
      refine .rep _ _ ?_
      cases hr with
      | unk _ _ _ h1 => exact .unk _ _ _ h1
      | v _ _ _ h1 => exact .v _ _ _ h1
      | nil => exact absurd rfl (g2 _ _ _ _)
      | ro => exact absurd rfl (g2 _ _ _ _)
      | own => exact absurd rfl (g2 _ _ _ _)
      | fn => exact absurd rfl (g3 _ _)
      | ifcNil => exact .ifcNil _ _
      | ifc _ t u => exact .ifc _ _ _ _
      | rp _ ad cs us _ h1 h2 h3 => exact .rp _ ad cs us _ (fun he => hst _ (h1 he)) h2 (fun j c hj => (h3 j c hj).frame hst (Nat.le_refl _) (fun r hr => absurd hr (Nat.not_lt_zero r)) (fun _ _ => rfl))
      | box => exact absurd rfl (g4 _)
      | mp => exact absurd rfl (g7 _)
    | al => exact absurd rfl (g1 _)
    | pa => exact absurd rfl (g6 _ _ _)
    | wi => exact absurd rfl (g8 _ _ _ _)
    | pl => exact absurd rfl (g4 _)
    | rp ad cs us h1 h2 h3 => exact .rp ad cs us (fun he => hst _ (h1 he)) h2 (fun j c hj => (h3 j c hj).frame hst (Nat.le_refl _) (fun r hr => absurd hr (Nat.not_lt_zero r)) (fun _ _ => rfl))
theorem showCells_ok {keeps : Bool} {lent : List Nat} {γ' : Nat → Bx} (R : Rel B γ st ow hand σ tmps w) : ∀ (cs : List C) (us : List Value) {k : List C → Option Res}, us.length = cs.length → (∀ (i : Nat) (u : Value) (c : C), us[i]? = some u → cs[i]? = some c → CellOk σ0 st γ w u c) → showCellsK keeps lent σ cs k = some r →
    ∃ ds, k ds = some r ∧ us.length = ds.length ∧ ∀ (i : Nat) (u : Value) (d : C), us[i]? = some u → ds[i]? = some d → CellOk ⟨[], []⟩ (stays keeps lent st ow) γ' w u d
  | [], us, k, hl, _, h => by
    have : us = [] := List.eq_nil_of_length_eq_zero hl
    subst this
    exact ⟨[], h, rfl, by simp⟩
  | c :: cs, us, k, hl, hc, h => by
    cases us with
    | nil => simp at hl
    | cons u us =>
      unfold showCellsK at h
      obtain ⟨d, h1, hd⟩ := showCell_ok (γ' := γ') R (hc 0 u c rfl rfl) h
      obtain ⟨ds, h2, hl2, hds⟩ := showCells_ok (γ' := γ') R cs us (by simpa using hl) (fun i u c hu hcs => hc (i + 1) u c (by simpa using hu) (by simpa using hcs)) h1
      refine ⟨d.weak :: ds, h2, by simpa using hl2, fun i u' d' hu hd' => ?_⟩
      cases i with
      | zero => simp only [List.getElem?_cons_zero, Option.some.injEq] at hu hd'; subst hu hd'; exact hd.weak
      | succ i => exact hds i u' d' (by simpa using hu) (by simpa using hd')
theorem show_ok {keeps : Bool} {lent : List Nat} {γ' : Nat → Bx} (R : Rel B γ st ow hand σ tmps w) {u : Value} {x : S} {k : S → Option Res} (hs : SlotOk σ0 st γ w u x) (h : showK keeps lent σ x k = some r) :
    ∃ y, k y = some r ∧ SlotOk ⟨[], []⟩ (stays keeps lent st ow) γ' w u y := by
  unfold showK at h
  split at h
  · obtain ⟨d, h1, hd⟩ := showCell_ok (γ' := γ') R (slot_one hs) h
    exact ⟨_, h1, .one _ _ hd⟩
  · cases hs with
    | agg us cs hl hc =>
      obtain ⟨ds, h1, hl1, hd⟩ := showCells_ok (γ' := γ') R _ us hl hc h
      exact ⟨_, h1, .agg us ds hl1 hd⟩
  · cases h
end
end Go.Proofs.Gh
