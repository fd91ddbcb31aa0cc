/- A ghost state and the machine's: a node of a tree is written. -/
import Derived.Test.YtmpnmcnjhpekaaaGh6
namespace Go.Proofs.Gh
open Go.RowKit
open Classical in
section

theorem plant_plant (a b : C) : ∀ (steps : List Step) (c : C), plant steps b (plant steps a c) = plant steps b c
  | [], _ => rfl
  | s :: rest, .sl o nl sz es => by
    simp only [plant, C.sl.injEq, true_and]
    rw [List.modify_modify_eq]
    congr 1
    funext row
    simp only [Function.comp]
    rw [List.modify_modify_eq]
    congr 1
    funext c
    exact plant_plant a b rest c
  | _ :: _, .v _ => rfl
  | _ :: _, .fn _ _ => rfl
  | _ :: _, .pl _ => rfl
  | _ :: _, .al _ => rfl
  | _ :: _, .rp _ => rfl
  | _ :: _, .bx _ => rfl
  | _ :: _, .ifc _ => rfl
  | _ :: _, .unk => rfl
  | _ :: _, .pa _ _ _ => rfl
  | _ :: _, .wi _ _ _ _ => rfl
  | _ :: _, .mp _ => rfl
theorem put_put (σ : St) (p : Place) (a b : C) : (σ.put p a).put p b = σ.put p b := by
  simp only [St.put, St.mk.injEq, true_and]
  rw [List.modify_modify_eq]
  congr 1
  funext bx
  simp only [Function.comp]
  rw [List.modify_modify_eq]
  congr 2
  funext c
  exact plant_plant a b p.steps c
section
variable {B : Base} {γ : Nat → Bx} {st : Nat → Prop} {ow : Nat → Option Ow} {hand : List (Value × C)} {σ : St} {tmps : Array Value} {w : World}

theorem pre_refl : ∀ p : List Step, pre p p
  | [] => trivial
  | _ :: p => ⟨rfl, rfl, pre_refl p⟩
theorem walkC_pre {x : Value} : ∀ (qs ps : List Step) {c d : C}, walkC qs c = some (.v x) → walkC ps c = some d → ps.length ≤ qs.length → pre qs ps → d = .v x
  | [], [], _, _, h0, hd, _, _ => by simp only [walkC, Option.some.injEq] at h0 hd; rw [← hd, h0]
  | [], _ :: _, _, _, _, _, h, _ => by simp at h
  | s :: qs, [], _, _, _, _, _, h => h.elim
  | s :: qs, t :: ps, c, d, h0, hd, hl, hp => by
    simp only [walkC, Option.bind_eq_some_iff] at h0 hd
    obtain ⟨x, hx, row, hrow, c1, hc1, h0⟩ := h0
    obtain ⟨y, hy, row2, hrow2, c2, hc2, hd⟩ := hd
    have hc := asOwn_some hx
    subst hc
    have hsz : s.sz = t.sz := by
      simp only [C.asOwn] at hy
      split at hy
      · assumption
      · cases hy
    obtain rfl : x = y := by simp [C.asOwn, hsz] at hy; exact hy
    rw [← hp.1, hrow] at hrow2
    cases hrow2
    rw [← hp.2.1, hc1] at hc2
    cases hc2
    exact walkC_pre qs ps h0 hd (by simpa using hl) hp.2.2
theorem walkC_plant_self (c' : C) : ∀ (steps : List Step) (c d : C), walkC steps c = some d → walkC steps (plant steps c' c) = some c'
  | [], _, _, _ => rfl
  | s :: rest, c, d, h => by
    simp only [walkC, Option.bind_eq_some_iff] at h
    obtain ⟨x, hx, row, hrow, c1, hc1, h⟩ := h
    have hc := asOwn_some hx
    subst hc
    simp only [plant, walkC, C.asOwn, if_true, Option.bind_some]
    rw [getElem?_modify_self, hrow]
    simp only [Option.map_some, Option.bind_some]
    rw [getElem?_modify_self, hc1]
    simp only [Option.map_some, Option.bind_some]
    exact walkC_plant_self c' rest c1 d h
theorem root_box {r k : Nat} {c : C} (h : σ.root r k = some c) : ∃ b, σ.boxes[r]? = some b ∧ k < b.cs.length := by
  unfold St.root at h
  cases hb : σ.boxes[r]? with
  | none => rw [hb] at h; simp at h
  | some b => rw [hb] at h; exact ⟨b, rfl, (List.getElem?_eq_some_iff.1 h).1⟩
theorem nodeC_root {p : Place} {d : C} (h : σ.nodeC p = some d) : ∃ c, σ.root p.r p.k = some c ∧ walkC p.steps c = some d := by
  unfold St.nodeC at h
  cases hc : σ.root p.r p.k with
  | none => rw [hc] at h; simp at h
  | some c => rw [hc] at h; exact ⟨c, rfl, h⟩

/-- The value of another root's cell, and what lies beyond it, is not touched by a store into block g. -/
theorem Rel.placeV_far (R : Rel B γ st ow hand σ tmps w) {q : Place} {d : C} (hd : σ.nodeC q = some d) {g o : Nat} (v' : Value)
    (hbox : ∀ g' o', γ q.r = .mem g' o' → g' ≠ g ∨ o' + q.k ≠ o) (hcell : ow g ≠ some (.cell q.r q.k)) : placeV γ (w.setCell ⟨g, o, none⟩ v') q = placeV γ w q := by
  obtain ⟨c, hc, hw⟩ := nodeC_root hd
  obtain ⟨u, hu, hr⟩ := R.cells _ _ _ hc
  have hfr : ∀ b, b ≠ g → (w.setCell ⟨g, o, none⟩ v').heap[b]? = w.heap[b]? := fun b hb => heap_setCell_other w _ b v' hb
  have hcv : cellV γ (w.setCell ⟨g, o, none⟩ v') q.r q.k = cellV γ w q.r q.k := by
    unfold cellV
    cases hb : γ q.r with
    | val vs => rfl
    | mem g' o' =>
      simp only
      rcases hbox g' o' hb with h | h
      · exact World.cell?_of_block (w := w) (hfr g' h)
      · by_cases e : g' = g
        · subst e
          simp only [World.cell?, World.setCell, Array.getElem?_modify]
          cases w.heap[g']? with
          | none => rfl
          | some ob => cases ob <;> simp [Array.getElem?_setIfInBounds_ne (Ne.symm h)]
        · exact World.cell?_of_block (w := w) (hfr g' e)
  unfold placeV
  rw [hcv, hu]
  simp only [Option.bind_some]
  exact walkV_same q.steps hr hw (fun b hb => hfr b (fun e => hcell (by rw [← e]; exact hb)))

/-- Nothing inside names a box. -/
def C.Nests (c : C) : Prop := c.slice = some () ∨ c.nested = true
theorem Rep.nest {n : Nat} {u : Value} {c : C} {X : Nat → Prop} (h : Rep st γ w n u c X) (hn : c.Nests) : Rep st γ w 0 u c X := by
  cases h with
  | unk _ _ _ h1 => exact .unk _ _ _ h1
  | v _ _ _ h1 => exact .v _ _ _ h1
  | nil _ o nl sz _ h1 => exact .nil _ _ _ _ _ h1
  | ro _ a cap sz nl es us _ h1 h2 h3 h4 h5 h6 h7 => exact .ro _ _ _ _ _ _ us _ h1 h2 h3 h4 h5 h6 h7
  | own _ g o cap sz nl es us Xs e cur _ h1 h2 h3 h4 h5 h6 h7 h8 h9 h10 h11 h12 => exact .own _ _ _ _ _ _ _ us Xs e cur _ h1 h2 h3 h4 h5 h6 h7 h8 h9 h10 h11 h12
  | fn _ f caps us _ h1 h2 =>
    refine .fn _ _ _ _ _ h1 fun i c u hc hu => ?_
    rcases hn with hn | hn
    · simp [C.slice] at hn
    · simp only [C.nested, List.all_eq_true] at hn
      have := hn c (List.mem_of_getElem? hc)
      have hr := h2 i c u hc hu
      cases hr with
      | v _ _ _ h1 => exact .v _ _ _ h1
      | nil _ o nl sz _ h1 => exact .nil _ _ _ _ _ h1
      | ro _ a cap sz nl es us _ h1 h2 h3 h4 h5 h6 h7 => exact .ro _ _ _ _ _ _ us _ h1 h2 h3 h4 h5 h6 h7
      | own _ g o cap sz nl es us Xs e cur _ h1 h2 h3 h4 h5 h6 h7 h8 h9 h10 h11 h12 => exact h2.elim
      | _ => simp at this
  | ifcNil => exact .ifcNil _ _
  | ifc _ t u => exact .ifc _ _ _ _
  | rp _ ad cs us _ h1 h2 h3 => exact .rp _ ad cs us _ h1 h2 h3
  | box _ r k g o _ h1 h2 => rcases hn with hn | hn <;> simp [C.slice, C.nested] at hn
  | mp _ g kvs ms clk _ h1 h2 h3 h4 => exact .mp _ g kvs ms clk _ h1 h2 h3 h4

/-- What a slot says that does not hang on the node p. -/
def C.Apart (p : Place) : C → Prop
  | .al q => ¬ (p.r = q.r ∧ p.k = q.k ∧ pre p.steps q.steps)
  | .wi q _ _ _ => ¬ (p.r = q.r ∧ p.k = q.k ∧ pre p.steps q.steps)
  | .pl q => ∀ before s, q.steps = before ++ [s] → ¬ (p.r = q.r ∧ p.k = q.k ∧ pre p.steps before)
  | .pa r k ps => ∀ (j : Nat) (q : Place), ps[j]? = some (some q) → ¬ (p.r = r ∧ p.k = k + j ∧ pre p.steps []) ∧ ¬ (p.r = q.r ∧ p.k = q.k ∧ pre p.steps q.steps)
  | _ => True
/-- A node is written with what is in the hand last. -/
theorem Rel.write0 {u' : Value} {d' d0 : C} (R : Rel B γ st ow (hand ++ [(u', d')]) σ tmps w) {p : Place} (h0 : σ.nodeC p = some d0) (hm : p.steps ≠ [] ∨ ∃ g o, γ p.r = .mem g o) (hn : p.steps = [] ∨ d'.Nests) :
    ∃ g o old, placeA γ w p = some ⟨g, o, none⟩ ∧ w.cell? ⟨g, o, none⟩ = some old ∧ w.frozen? ⟨g, o, none⟩ = false ∧
      (∀ q d, σ.nodeC q = some d → ¬ (p.r = q.r ∧ p.k = q.k ∧ pre p.steps q.steps) → placeV γ (w.setCell ⟨g, o, none⟩ u') q = placeV γ w q) ∧
      ∃ ow', ∀ sl : List S, sl.length = σ.slots.length → (∀ (t : Nat) (s' : S) (u : Value), sl[t]? = some s' → ∃ s, σ.slots[t]? = some s ∧ (SlotOk σ st γ w u s →
        (∀ u c, CellOk σ st γ w u c → c.Apart p → CellOk (σ.put p d') st γ (w.setCell ⟨g, o, none⟩ u') u c) → SlotOk (σ.put p d') st γ (w.setCell ⟨g, o, none⟩ u') u s')) →
        Rel B γ st ow' hand ⟨sl, (σ.put p d').boxes⟩ tmps (w.setCell ⟨g, o, none⟩ u') := by
  obtain ⟨c, u, v0, Z0, k00, hc, hu, _, hvr0, _, hZ0, hr, hwc, hp0⟩ := R.node h0
  obtain ⟨b0, hb0, hk0⟩ := root_box hc
  have hlast := R.hands hand.length (u', d') (getElem?_snoc_self _ _)
  have h1 := hlast.one
  -- the root, its node unknown
  have hr' := hp0 .unk (fun _ => False) (.unk _ _ _ hvr0.one) (fun b h => h.elim)
  have hwc' : walkC p.steps (plant p.steps .unk c) = some .unk := walkC_plant_self _ _ _ _ hwc
  have hX' : ∀ b, ((ow b = some (.cell p.r p.k) ∧ ¬ Z0 b) ∨ False) → ow b = some (.cell p.r p.k) ∧ ¬ Z0 b := fun b h => h.elim id (fun h => h.elim)
  -- where it lies: the address, whose block it is, and what is written of this root
  have key : ∃ g o old, placeA γ w p = some ⟨g, o, none⟩ ∧ w.cell? ⟨g, o, none⟩ = some old ∧ w.frozen? ⟨g, o, none⟩ = false ∧ (g < B.w.heap.size → B.Y g o) ∧
      ((ow g = some (.cell p.r p.k) ∧ ¬ Z0 g) ∨ (ow g = some (.box p.r) ∧ p.steps = [] ∧ ∃ o', γ p.r = .mem g o' ∧ o = o' + p.k)) ∧
      (∃ u1, cellV γ (w.setCell ⟨g, o, none⟩ u') p.r p.k = some u1 ∧ Rep st γ (w.setCell ⟨g, o, none⟩ u') σ.boxes.length u1 (plant p.steps d' c) (fun b => (ow b = some (.cell p.r p.k) ∧ ¬ Z0 b) ∨ ow b = some (.hand hand.length))) ∧
      (∀ q d, q.r = p.r → q.k = p.k → σ.nodeC q = some d → ¬ pre p.steps q.steps → placeV γ (w.setCell ⟨g, o, none⟩ u') q = placeV γ w q) := by
    by_cases hs : p.steps = []
    · obtain ⟨g, o, hg⟩ := hm.resolve_left (fun h => h hs)
      obtain ⟨hm1, hm2, hm3⟩ := R.mem _ _ _ _ hb0 hg
      obtain ⟨hfz, hY⟩ := hm3 p.k hk0
      have hcu : w.cell? ⟨g, o + p.k, none⟩ = some u := by simpa [cellV, hg] using hu
      have hfr : ∀ b, b ≠ g → (w.setCell ⟨g, o + p.k, none⟩ u').heap[b]? = w.heap[b]? := fun b hb => heap_setCell_other w _ b u' hb
      have hnew : (w.setCell ⟨g, o + p.k, none⟩ u').cell? ⟨g, o + p.k, none⟩ = some u' := by
        have := hcu
        simp only [World.cell?, World.setCell, Array.getElem?_modify] at this ⊢
        cases hh : w.heap[g]? with
        | none => rw [hh] at this; simp at this
        | some ob =>
          rw [hh] at this
          cases ob <;> simp_all
          rename_i cs _ _
          have : o + p.k < cs.size := (Array.getElem?_eq_some_iff.1 this).1
          simp [this]
      refine ⟨g, o + p.k, u, by simp [placeA, hs, hg], hcu, hfz, hY, .inr ⟨hm2, hs, o, hg, rfl⟩, ⟨u', by simp [cellV, hg, hnew], ?_⟩, fun q d hq1 hq2 hq hl => by rw [hs] at hl; exact absurd trivial hl⟩
      rw [hs]
      simp only [plant]
      refine (hlast.same fun b hb => hfr b ?_).mono fun b hb => .inr hb
      rcases hb with hb | hb
      · intro e; subst e; have := (R.stlt _ hb).2; rw [hm2] at this; cases this
      · intro e; subst e; replace hb : ow b = some (.hand hand.length) := hb; rw [hm2] at hb; cases hb
    · have hsX : ∀ b, st b → ¬ ow b = some (.cell p.r p.k) := fun b hb h => by have := (R.stlt b hb).2; rw [h] at this; cases this
      obtain ⟨g, o, old, hA', hX1, hold, hfz, hw⟩ := Rep.write p.steps hr' (fun b hb h => hsX b hb (hX' b h).1) hwc' hs
      obtain ⟨hX, hZg⟩ := hX' g hX1
      obtain ⟨hr1, hv1⟩ := hw u' h1
      have hA : walkA w p.steps u = some ⟨g, o, none⟩ := hA'
      have hfr : ∀ b, b ≠ g → (w.setCell ⟨g, o, none⟩ u').heap[b]? = w.heap[b]? := fun b hb => heap_setCell_other w _ b u' hb
      have hPA : placeA γ w p = some ⟨g, o, none⟩ := by
        unfold placeA
        cases hst : p.steps with
        | nil => exact absurd hst hs
        | cons x y => simp only [hu, Option.bind_some]; rw [← hst]; exact hA
      have hcv : cellV γ (w.setCell ⟨g, o, none⟩ u') p.r p.k = some u := by
        unfold cellV at hu ⊢
        cases hb : γ p.r with
        | val vs => rw [hb] at hu; exact hu
        | mem g' o' =>
          rw [hb] at hu
          simp only at hu ⊢
          have hne : g' ≠ g := fun e => by
            subst e
            have := (R.mem _ _ _ _ hb0 hb).2.1
            rw [hX] at this; cases this
          rw [World.cell?_of_block (w := w) (hfr g' hne)]; exact hu
      refine ⟨g, o, old, hPA, hold, hfz, fun hlt => R.mine g _ hX hlt (by simp) o, .inl ⟨hX, hZg⟩, ⟨u, hcv, ?_⟩, fun q d hq1 hq2 hq hl => ?_⟩
      · obtain ⟨v, Z, k, hv, hvr, hk, hZ, hp⟩ := Rep.node p.steps hr1 hwc'
        rw [hv1] at hv
        cases hv
        have hd1 : Rep st γ (w.setCell ⟨g, o, none⟩ u') 0 u' d' (fun b => ow b = some (.hand hand.length)) :=
          (hlast.nest (hn.resolve_left hs)).same fun b hb => hfr b (by
            rcases hb with hb | hb
            · intro e; subst e; exact hsX _ hb hX
            · intro e; subst e; replace hb : ow b = some (.hand hand.length) := hb; rw [hX] at hb; cases hb)
        have hh := hp d' _ hd1.any (fun b hb hx => by replace hb : ow b = some (.hand hand.length) := hb; have hx' := (hX' b hx).1; rw [hx'] at hb; cases hb)
        rw [plant_plant] at hh
        refine hh.mono fun b hb => ?_
        rcases hb with ⟨hb, _⟩ | hb
        · exact .inl (hX' b hb)
        · exact .inr hb
      · obtain ⟨c', hc', hq'⟩ := nodeC_root hq
        rw [hq1, hq2, hc] at hc'
        cases hc'
        have := (walkV_other u' p.steps q.steps hr hs hwc hq' hl hA).2
        unfold placeV
        rw [hq1, hq2, hcv, hu]
        simp only [Option.bind_some]
        exact this
  obtain ⟨g, o, old, hA, hold, hfz, hY, howg, ⟨u1, hu1, hr1⟩, hsame⟩ := key
  have hfr : ∀ b, b ≠ g → (w.setCell ⟨g, o, none⟩ u').heap[b]? = w.heap[b]? := fun b hb => heap_setCell_other w _ b u' hb
  have hgo : ∃ y, ow g = some y ∧ (∀ i, y ≠ .hand i) ∧ ∀ r k, (r ≠ p.r ∨ k ≠ p.k) → y ≠ .cell r k := by
    rcases howg with ⟨h, _⟩ | ⟨h, _⟩
    · exact ⟨_, h, by simp, fun r k hrk e => by simp only [Ow.cell.injEq] at e; rcases hrk with hh | hh; exact hh e.1.symm; exact hh e.2.symm⟩
    · exact ⟨_, h, by simp, by simp⟩
  obtain ⟨y, hy, hyh, hyc⟩ := hgo
  have hstg : ¬ st g := fun h => by have := (R.stlt _ h).2; rw [hy] at this; cases this
  -- of another root
  have hfar : ∀ q d, σ.nodeC q = some d → (q.r ≠ p.r ∨ q.k ≠ p.k) → placeV γ (w.setCell ⟨g, o, none⟩ u') q = placeV γ w q := by
    intro q d hq hrk
    refine R.placeV_far hq u' (fun g' o' hg' => ?_) (by rw [hy]; simp only [ne_eq, Option.some.injEq]; exact hyc _ _ hrk)
    by_cases e : g' = g
    · right
      subst e
      obtain ⟨cq, hcq, _⟩ := nodeC_root hq
      obtain ⟨bq, hbq, _⟩ := root_box hcq
      have h2 := (R.mem _ _ _ _ hbq hg').2.1
      rcases howg with ⟨h, _⟩ | ⟨h, _, o'', hg'', ho⟩
      · rw [h2] at h; cases h
      · rw [h2] at h
        simp only [Option.some.injEq, Ow.box.injEq] at h
        have hk : q.k ≠ p.k := hrk.resolve_left (fun hh => hh h)
        rw [h] at hg'
        rw [hg'] at hg''
        simp only [Bx.mem.injEq, true_and] at hg''
        omega
    · exact .inl e
  have hplace : ∀ q d, σ.nodeC q = some d → ¬ (p.r = q.r ∧ p.k = q.k ∧ pre p.steps q.steps) → placeV γ (w.setCell ⟨g, o, none⟩ u') q = placeV γ w q := by
    intro q d hq hl
    by_cases e : q.r = p.r ∧ q.k = p.k
    · exact hsame q d e.1 e.2 hq (fun hh => hl ⟨e.1.symm, e.2.symm, hh⟩)
    · exact hfar q d hq (by by_cases hr : q.r = p.r; exact .inr (fun hk => e ⟨hr, hk⟩); exact .inl hr)
  have hnode : ∀ q d, σ.nodeC q = some d → ¬ (p.r = q.r ∧ p.k = q.k ∧ pre p.steps q.steps) → ∃ d'', (σ.put p d').nodeC q = some d'' ∧ Alike d d'' := by
    intro q d hq hl
    obtain ⟨d'', h1, h2⟩ := nodeC_kept (c' := d') h0 hq (fun hh => hl ⟨hh.2.1, hh.2.2.1, hh.2.2.2⟩)
    refine ⟨d'', h1, h2.resolve_right fun hh => hl ?_⟩
    rw [hh.2.2]
    exact ⟨rfl, rfl, pre_refl _⟩
  have hcellok : ∀ u c, CellOk σ st γ w u c → c.Apart p → CellOk (σ.put p d') st γ (w.setCell ⟨g, o, none⟩ u') u c := by
    intro u c h hf
    induction h with
    | unk => exact .unk _
    | rep _ _ h =>
      refine .rep _ _ ?_
      rw [length_put]
      exact h.same fun b hb => hfr b (hb.elim (fun hb e => hstg (e ▸ hb)) (fun h => h.elim))
    | al q _ d hd hv hp =>
      obtain ⟨d'', h1, h2⟩ := hnode q d hd hf
      exact .al q _ d'' h1 (h2.1 hv) ((hplace q d hd hf).trans hp)
    | pl q before s d ad hs hd hx ha =>
      have hl := hf before s hs
      obtain ⟨d'', h1, h2⟩ := hnode ⟨q.r, q.k, before⟩ d hd hl
      obtain ⟨x, hx⟩ := hx
      refine .pl q before s d'' ad hs h1 (h2.2 _ _ hx) ?_
      obtain ⟨r, k, steps⟩ := q
      simp only at hs
      subst hs
      rw [placeA_append] at ha ⊢
      rw [hplace ⟨r, k, before⟩ d hd hl]
      exact ha
    | rp ad cs us h1 h2 h3 =>
      refine .rp ad cs us h1 (fun j c hj => ?_) (fun j c hj => (h3 j c hj).same fun b hb => hfr b (hb.elim (fun hb e => hstg (e ▸ hb)) (fun h => h.elim)))
      have hne : cs ≠ [] := by intro e; subst e; simp at hj
      rw [World.cell?_of_block (w := w) (by rw [add_block]; exact hfr _ (fun e => hstg (e ▸ h1 hne)))]
      exact h2 j c hj
    | wi q sz l h' len cap ad h1 h2 h3 ih => exact .wi q sz l h' len cap ad (ih hf) h2 h3
    | pa r k g o ps us h1 h2 h3 h4 i3 i4 => exact .pa r k g o ps us (by rw [length_put]; exact h1) h2 (fun j q hq => i3 j q hq (hf j q hq).1) (fun j q hq => i4 j q hq (hf j q hq).2)
  have hZo : ∀ b, Z0 b → ow b = some (.cell p.r p.k) := hZ0
  refine ⟨g, o, old, hA, hold, hfz, hplace, fun b => if ow b = some (.hand hand.length) then some (.cell p.r p.k) else if Z0 b then none else ow b, fun sl hsl hslots => ?_⟩
  have hsame' : ∀ b y, ow b = some y → y ≠ .hand hand.length → ¬ Z0 b → (if ow b = some (.hand hand.length) then some (.cell p.r p.k) else if Z0 b then none else ow b) = some y := fun b y h hn hz => by
    rw [if_neg (by rw [h]; simp; exact hn), if_neg hz, h]
  have hback : ∀ b y, (if ow b = some (.hand hand.length) then some (.cell p.r p.k) else if Z0 b then none else ow b) = some y → ∃ y', ow b = some y' ∧ ((∀ r, y' ≠ .box r) ∨ y' = y) := fun b y h => by
    by_cases e : ow b = some (.hand hand.length)
    · exact ⟨_, e, .inl (by simp)⟩
    · rw [if_neg e] at h
      by_cases hz : Z0 b
      · rw [if_pos hz] at h; cases h
      · rw [if_neg hz] at h; exact ⟨y, h, .inr rfl⟩
  have hZne : ∀ b y, ow b = some y → y ≠ .cell p.r p.k → ¬ Z0 b := fun b y h hn hz => by rw [hZo b hz] at h; exact hn (Option.some.inj h).symm
  constructor
  · exact R.tab
  · simpa using R.size.trans hsl.symm
  · intro t s' u hs hu
    obtain ⟨s, hs0, hmv⟩ := hslots t s' u hs
    exact (hmv (R.slots t s u hs0 hu) hcellok).move fun u c h => CellOk.boxes (σ := σ.put p d') rfl h
  · intro r k c1 hc1
    have hlen : (σ.put p d').boxes.length = σ.boxes.length := length_put _ _ _
    simp only [hlen]
    replace hc1 : (σ.put p d').root r k = some c1 := hc1
    rw [root_put] at hc1
    by_cases e : r = p.r ∧ k = p.k
    · rw [if_pos e] at hc1
      obtain ⟨rfl, rfl⟩ := e
      rw [hc] at hc1
      simp only [Option.map_some, Option.some.injEq] at hc1
      subst hc1
      refine ⟨u1, hu1, hr1.mono fun b hb => ?_⟩
      rcases hb with hb | hb
      · exact hsame' b _ hb.1 (by simp) hb.2
      · rw [if_pos hb]
    · rw [if_neg e] at hc1
      obtain ⟨u2, hu2, hr2⟩ := R.cells r k c1 hc1
      have hrk : r ≠ p.r ∨ k ≠ p.k := by by_cases hh : r = p.r; exact .inr (fun hk => e ⟨hh, hk⟩); exact .inl hh
      refine ⟨u2, ?_, (hr2.same fun b hb => hfr b ?_).mono fun b hb => hsame' b _ hb (by simp) (hZne b _ hb (by simp only [ne_eq, Ow.cell.injEq]; exact fun hh => e hh))⟩
      · have := hfar ⟨r, k, []⟩ c1 (by simp [St.nodeC, hc1, walkC]) hrk
        simpa [placeV, walkV, hu2] using this
      · rcases hb with hb | hb
        · exact fun e => hstg (e ▸ hb)
        · intro e; subst e; replace hb : ow b = some (.cell r k) := hb; rw [hy] at hb; simp only [Option.some.injEq] at hb; exact hyc _ _ hrk hb
  · intro r b g' o' hb hg'
    obtain ⟨b', hb', h3, h4⟩ := box_put (show (σ.put p d').boxes[r]? = some b from hb)
    obtain ⟨h5, h6, h7⟩ := R.mem r b' g' o' hb' hg'
    refine ⟨by rw [← h3]; exact h5, hsame' _ _ h6 (by simp) (hZne _ _ h6 (by simp)), fun k hk => ⟨?_, (h7 k (by rw [h4]; exact hk)).2⟩⟩
    have := (h7 k (by rw [h4]; exact hk)).1
    rw [← this]
    simp only [World.frozen?, World.setCell, Array.getElem?_modify]
    cases hh : w.heap[g']? with
    | none => by_cases e : g = g' <;> simp [e]
    | some ob => by_cases e : g = g' <;> cases ob <;> simp [e]
  · intro r b hb hf
    obtain ⟨b', hb', h3, _⟩ := box_put (show (σ.put p d').boxes[r]? = some b from hb)
    exact R.free r b' hb' (h3.trans hf)
  · intro i x hx
    have hlen : (σ.put p d').boxes.length = σ.boxes.length := length_put _ _ _
    simp only [hlen]
    have hi : i < hand.length := (List.getElem?_eq_some_iff.1 hx).1
    refine ((R.hands i x (by rw [List.getElem?_append_left hi]; exact hx)).same fun b hb => hfr b ?_).mono fun b hb => hsame' b _ hb (by simp; omega) (hZne b _ hb (by simp))
    rcases hb with hb | hb
    · exact fun e => hstg (e ▸ hb)
    · intro e; subst e; replace hb : ow b = some (.hand i) := hb; rw [hy] at hb; simp only [Option.some.injEq] at hb; exact hyh _ hb
  · intro b x hx
    simp only [World.setCell, Array.size_modify]
    obtain ⟨y', h, _⟩ := hback b x hx
    exact R.lt b _ h
  · intro b hb
    have := R.stlt b hb
    refine ⟨by simp only [World.setCell, Array.size_modify]; exact this.1, ?_⟩
    have h1 : ¬ ow b = some (.hand hand.length) := by rw [this.2]; simp
    by_cases hz : Z0 b
    · simp [hz, h1]
    · simp [hz, this.2]
  · exact R.chg.setCell g o u' hY
  · intro b x hx hb hne
    obtain ⟨y', h, h'⟩ := hback b x hx
    refine R.mine b _ h hb ?_
    rcases h' with h' | h'
    · exact h'
    · rw [h']; exact hne
  · intro r x hx
    have hlen : (σ.put p d').boxes.length = σ.boxes.length := length_put _ _ _
    simp only [hlen]; exact R.pin r x hx

/-- STORE: a node is written with what is in the hand last. -/
theorem Rel.store {u' : Value} {d' d0 : C} (R : Rel B γ st ow (hand ++ [(u', d')]) σ tmps w) {p : Place} (h0 : σ.nodeC p = some d0) (hm : p.steps ≠ [] ∨ ∃ g o, γ p.r = .mem g o) (hn : p.steps = [] ∨ d'.Nests) :
    ∃ g o old, placeA γ w p = some ⟨g, o, none⟩ ∧ w.cell? ⟨g, o, none⟩ = some old ∧ w.frozen? ⟨g, o, none⟩ = false ∧
      (∀ q d, σ.nodeC q = some d → ¬ (p.r = q.r ∧ p.k = q.k ∧ pre p.steps q.steps) → placeV γ (w.setCell ⟨g, o, none⟩ u') q = placeV γ w q) ∧
      ∃ ow', Rel B γ st ow' hand ((σ.put p d').kill (C.hit p)) tmps (w.setCell ⟨g, o, none⟩ u') := by
  obtain ⟨g, o, old, hA, hold, hfz, hpl, ow', hR⟩ := R.write0 h0 hm hn
  have hh := hR (σ.slots.map fun s => S.kill (C.hit p) s) (by simp) (fun t s' u hs => ?_)
  · exact ⟨g, o, old, hA, hold, hfz, hpl, ow', hh⟩
  rw [List.getElem?_map] at hs
  cases hq : σ.slots[t]? with
  | none => rw [hq] at hs; simp at hs
  | some s =>
    rw [hq] at hs
    simp only [Option.map_some, Option.some.injEq] at hs
    subst hs
    refine ⟨s, rfl, fun h hc => h.killed _ fun u c h hf => hc u c h ?_⟩
    cases c with
    | al q => exact fun hh => by simp [C.hit, hh.1, hh.2.1, leads_of_pre hh.2.2] at hf
    | wi q => exact fun hh => by simp [C.hit, hh.1, hh.2.1, leads_of_pre hh.2.2] at hf
    | pl q =>
      intro before s hs hh
      have h1 := leads_append s (leads_of_pre hh.2.2)
      have h2 := leads_length (leads_of_pre hh.2.2)
      rw [← hs] at h1
      have hlt : p.steps.length < q.steps.length := by rw [hs]; simp; omega
      simp [C.hit, hh.1, hh.2.1, h1, hlt] at hf
    | pa r k ps =>
      intro j q hq
      simp only [C.hit, Bool.or_eq_false_iff] at hf
      have := paAny_false hf.2 hq
      exact ⟨fun hh => by simp [hh.1] at hf, fun hh => by simp [hh.1, hh.2.1, leads_of_pre hh.2.2] at this⟩
    | _ => trivial
/-- STORE of a number over a number: nothing dies. -/
theorem Rel.storeV {u' x0 : Value} {d' : C} (R : Rel B γ st ow (hand ++ [(u', d')]) σ tmps w) {p : Place} (h0 : σ.nodeC p = some (.v x0)) (hm : p.steps ≠ [] ∨ ∃ g o, γ p.r = .mem g o) (hn : p.steps = [] ∨ d'.Nests) :
    ∃ g o old, placeA γ w p = some ⟨g, o, none⟩ ∧ w.cell? ⟨g, o, none⟩ = some old ∧ w.frozen? ⟨g, o, none⟩ = false ∧
      (∀ q d, σ.nodeC q = some d → ¬ (p.r = q.r ∧ p.k = q.k ∧ pre p.steps q.steps) → placeV γ (w.setCell ⟨g, o, none⟩ u') q = placeV γ w q) ∧
      ∃ ow', Rel B γ st ow' hand (σ.put p d') tmps (w.setCell ⟨g, o, none⟩ u') := by
  obtain ⟨g, o, old, hA, hold, hfz, hpl, ow', hR⟩ := R.write0 h0 hm hn
  refine ⟨g, o, old, hA, hold, hfz, hpl, ow', hR σ.slots rfl fun t s' u hs => ⟨s', hs, fun h hc => h.move fun u c h => hc u c h ?_⟩⟩
  have hsame : ∀ q d, σ.nodeC q = some d → (∀ x, d ≠ .v x) → p.r = q.r → p.k = q.k → pre p.steps q.steps → False := by
    intro q d hq hv hr hk hp
    rcases Nat.lt_or_ge p.steps.length q.steps.length with hl | hl
    · exact nodeC_leaf h0 hq hr hk hl hp
    · unfold St.nodeC at h0 hq
      rw [← hr, ← hk] at hq
      cases hc : σ.root p.r p.k with
      | none => rw [hc] at h0; simp at h0
      | some c =>
        rw [hc] at h0 hq
        simp only [Option.bind_some] at h0 hq
        have := walkC_pre p.steps q.steps h0 hq hl hp
        exact hv _ this
  cases h with
  | al q _ d hd hv hp => exact fun hh => hsame q d hd hv hh.1 hh.2.1 hh.2.2
  | pl q before s d ad hs hd hx ha =>
    intro before' s' hs' hh
    rw [hs] at hs'
    obtain ⟨rfl, rfl⟩ : before = before' ∧ s = s' := by
      have := List.append_inj' hs' rfl
      exact ⟨this.1, by simpa using this.2⟩
    exact hsame ⟨q.r, q.k, before⟩ d hd (fun x e => by rw [e] at hx; obtain ⟨y, hy⟩ := hx; simp [C.asOwn] at hy) hh.1 hh.2.1 hh.2.2
  | rep _ _ h =>
    cases h with
    | box _ r k g o _ h1 h2 =>
      intro before s hs
      simp at hs
    | _ => trivial
  | wi q sz l h' len cap ad h1 h2 h3 =>
    obtain ⟨d, hd, hv, _⟩ := cell_al h1
    exact fun hh => hsame q d hd hv hh.1 hh.2.1 hh.2.2
  | pa r k g o ps us h1 h2 h3 h4 =>
    intro j q hq
    obtain ⟨d, hd, hv, _⟩ := cell_al (h3 j q hq)
    obtain ⟨d2, hd2, hv2, _⟩ := cell_al (h4 j q hq)
    exact ⟨fun hh => hsame ⟨r, k + j, []⟩ d hd hv hh.1 hh.2.1 hh.2.2, fun hh => hsame q d2 hd2 hv2 hh.1 hh.2.1 hh.2.2⟩
  | _ => trivial
end
end
end Go.Proofs.Gh
