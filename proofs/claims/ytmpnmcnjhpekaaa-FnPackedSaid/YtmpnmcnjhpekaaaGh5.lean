/- A ghost state and the machine's: the steps by which both change together. -/
import Derived.Test.YtmpnmcnjhpekaaaGh4
namespace Go.Proofs.Gh
open Go.RowKit
open Classical in
section

/-- What has become of memory since the function began. -/
structure Chg (B : Base) (w : World) : Prop where
  os : w.os = B.w.os
  tape : w.tape = B.w.tape
  output : w.output = B.w.output
  size : B.w.heap.size ≤ w.heap.size
  same : ∀ b, b < B.w.heap.size → (∀ o, ¬ B.Y b o) → w.heap[b]? = B.w.heap[b]?
  part : ∀ b o, b < B.w.heap.size → ¬ B.Y b o → w.cell? ⟨b, o, none⟩ = B.w.cell? ⟨b, o, none⟩ ∧ w.frozen? ⟨b, o, none⟩ = B.w.frozen? ⟨b, o, none⟩

structure Rel (B : Base) (γ : Nat → Bx) (st : Nat → Prop) (ow : Nat → Option Ow) (hand : List (Value × C)) (σ : St) (tmps : Array Value) (w : World) : Prop where
  tab : TabOk B st
  size : tmps.size = σ.slots.length
  slots : ∀ (t : Nat) (s : S) (u : Value), σ.slots[t]? = some s → tmps[t]? = some u → SlotOk σ st γ w u s
  cells : ∀ (r k : Nat) (c : C), σ.root r k = some c → ∃ u, cellV γ w r k = some u ∧ Rep st γ w σ.boxes.length u c (fun b => ow b = some (.cell r k))
  mem : ∀ (r : Nat) (b : Box) (g o : Nat), σ.boxes[r]? = some b → γ r = .mem g o → b.free = false ∧ ow g = some (.box r) ∧ ∀ k, k < b.cs.length → w.frozen? ⟨g, o + k, none⟩ = false ∧ (g < B.w.heap.size → B.Y g (o + k))
  free : ∀ (r : Nat) (b : Box), σ.boxes[r]? = some b → b.free = true → ∃ vs, γ r = .val vs
  hands : ∀ (i : Nat) (x : Value × C), hand[i]? = some x → Rep st γ w σ.boxes.length x.1 x.2 (fun b => ow b = some (.hand i))
  lt : ∀ b x, ow b = some x → b < w.heap.size
  stlt : ∀ b, st b → b < w.heap.size ∧ ow b = none
  chg : Chg B w
  mine : ∀ b x, ow b = some x → b < B.w.heap.size → (∀ r, x ≠ .box r) → ∀ o, B.Y b o
  pin : ∀ r x, B.pin r = some x → r < σ.boxes.length ∧ γ r = x

theorem SlotOk.killed {σ σ' : St} {st st' : Nat → Prop} {γ γ' : Nat → Bx} {w w' : World} {u : Value} {s : S} (f : C → Bool) (h : SlotOk σ st γ w u s)
    (hc : ∀ u c, CellOk σ st γ w u c → f c = false → CellOk σ' st' γ' w' u c) : SlotOk σ' st' γ' w' u (s.kill f) := by
  cases h with
  | one _ c h =>
    simp only [S.kill]
    cases hf : f c
    · simpa using SlotOk.one _ _ (hc _ _ h hf)
    · simpa using SlotOk.one _ _ (CellOk.unk _)
  | agg us cs hl h =>
    refine SlotOk.agg us _ (by simpa using hl) fun i u c hu hcs => ?_
    rw [List.getElem?_map] at hcs
    cases hq : cs[i]? with
    | none => rw [hq] at hcs; simp at hcs
    | some d =>
      rw [hq] at hcs
      simp only [Option.map_some, Option.some.injEq] at hcs
      subst hcs
      cases hf : f d
      · simpa using hc _ _ (h i u d hu hq) hf
      · simpa using CellOk.unk _
  | tup us ss hl h =>
    cases ss with
    | nil => exact SlotOk.tup us [] hl (fun i u s _ hs => by simp at hs)
    | cons s ss => exact SlotOk.one _ _ (CellOk.unk _)
theorem SlotOk.move {σ σ' : St} {st st' : Nat → Prop} {γ γ' : Nat → Bx} {w w' : World} {u : Value} {s : S} (h : SlotOk σ st γ w u s)
    (hc : ∀ u c, CellOk σ st γ w u c → CellOk σ' st' γ' w' u c) : SlotOk σ' st' γ' w' u s := by
  induction h with
  | one _ c h => exact .one _ _ (hc _ _ h)
  | agg us cs hl h => exact .agg us _ hl fun i u c hu hcs => hc _ _ (h i u c hu hcs)
  | tup us ss hl _ ih => exact .tup us _ hl fun i u s hu hs => ih i u s hu hs

/-- The slots play no part in what a cell says. -/
theorem CellOk.boxes {σ σ' : St} {st : Nat → Prop} {γ : Nat → Bx} {w : World} {u : Value} {c : C} (hb : σ'.boxes = σ.boxes) (h : CellOk σ st γ w u c) : CellOk σ' st γ w u c := by
  have hn : ∀ p, σ'.nodeC p = σ.nodeC p := fun p => by unfold St.nodeC St.root; rw [hb]
  induction h with
  | unk => exact .unk _
  | rep _ _ h => exact .rep _ _ (by rw [hb]; exact h)
  | al q _ d hd hv hp => exact .al q _ d ((hn q).trans hd) hv hp
  | pl q before s d ad hs hd hx ha => exact .pl q before s d ad hs ((hn _).trans hd) hx ha
  | rp ad cs us h1 h2 h3 => exact .rp ad cs us h1 h2 h3
  | pa r k g o ps us h1 h2 h3 h4 i3 i4 => exact .pa r k g o ps us (by rw [hb]; exact h1) h2 i3 i4
  | wi p sz l h len cap ad h1 h2 h3 ih => exact .wi p sz l h len cap ad ih h2 h3
/-! ### Roots -/
theorem root_put (σ : St) (p : Place) (c : C) (r k : Nat) : (σ.put p c).root r k = if r = p.r ∧ k = p.k then (σ.root r k).map (plant p.steps c) else σ.root r k := by
  unfold St.root St.put
  simp only
  by_cases hr : r = p.r
  · subst hr
    rw [getElem?_modify_self]
    cases hb : σ.boxes[p.r]? with
    | none => by_cases hk : k = p.k <;> simp [hk]
    | some b =>
      simp only [Option.map_some, Option.bind_some]
      by_cases hk : k = p.k
      · subst hk; rw [getElem?_modify_self]; simp
      · rw [getElem?_modify_ne _ _ (Ne.symm hk)]; simp [hk]
  · rw [getElem?_modify_ne _ _ (Ne.symm hr)]; simp [hr]
theorem root_kill (σ : St) (f : C → Bool) (r k : Nat) : (σ.kill f).root r k = σ.root r k := rfl
theorem length_put (σ : St) (p : Place) (c : C) : (σ.put p c).boxes.length = σ.boxes.length := by simp [St.put]
theorem box_put {σ : St} {p : Place} {c : C} {r : Nat} {b : Box} (h : (σ.put p c).boxes[r]? = some b) : ∃ b', σ.boxes[r]? = some b' ∧ b'.free = b.free ∧ b'.cs.length = b.cs.length := by
  simp only [St.put] at h
  by_cases hr : p.r = r
  · subst hr
    rw [getElem?_modify_self] at h
    cases hb : σ.boxes[p.r]? with
    | none => rw [hb] at h; simp at h
    | some b' => rw [hb] at h; simp at h; subst h; exact ⟨b', rfl, rfl, by simp⟩
  · rw [getElem?_modify_ne _ _ hr] at h
    exact ⟨b, h, rfl, rfl⟩
theorem nodeC_put (σ : St) (p q : Place) (c : C) : (σ.put p c).nodeC q = if q.r = p.r ∧ q.k = p.k then ((σ.root q.r q.k).map (plant p.steps c)).bind (walkC q.steps) else σ.nodeC q := by
  unfold St.nodeC
  rw [root_put]
  split <;> rfl
theorem root_new (σ : St) (f : Bool) (cs : List C) (r k : Nat) : (σ.new f cs).root r k = if r = σ.boxes.length then cs[k]? else σ.root r k := by
  unfold St.root St.new
  simp only
  by_cases hr : r = σ.boxes.length
  · subst hr; simp
  · rw [if_neg hr]
    by_cases hlt : r < σ.boxes.length
    · rw [List.getElem?_append_left hlt]
    · rw [List.getElem?_eq_none (by simp; omega), List.getElem?_eq_none (by omega)]
theorem root_lt {σ : St} {r k : Nat} {c : C} (h : σ.root r k = some c) : r < σ.boxes.length := by
  unfold St.root at h
  cases hb : σ.boxes[r]? with
  | none => rw [hb] at h; simp at h
  | some b => exact (List.getElem?_eq_some_iff.1 hb).1
theorem nodeC_lt {σ : St} {p : Place} {c : C} (h : σ.nodeC p = some c) : p.r < σ.boxes.length := by
  unfold St.nodeC at h
  cases hb : σ.root p.r p.k with
  | none => rw [hb] at h; simp at h
  | some b => exact root_lt hb
theorem nodeC_new {σ : St} {p : Place} {c : C} (f : Bool) (cs : List C) (h : σ.nodeC p = some c) : (σ.new f cs).nodeC p = some c := by
  have := nodeC_lt h
  unfold St.nodeC at h ⊢
  rw [root_new, if_neg (by omega)]
  exact h

section
variable {B : Base} {γ : Nat → Bx} {st : Nat → Prop} {ow : Nat → Option Ow} {hand : List (Value × C)} {σ : St} {tmps : Array Value} {w : World}

/-- The node at a place: its value and what it owns. -/
theorem Rel.node (R : Rel B γ st ow hand σ tmps w) {p : Place} {d : C} (hd : σ.nodeC p = some d) :
    ∃ c u v Z k, σ.root p.r p.k = some c ∧ cellV γ w p.r p.k = some u ∧ placeV γ w p = some v ∧ Rep st γ w k v d Z ∧ k ≤ σ.boxes.length ∧ (∀ b, Z b → ow b = some (.cell p.r p.k)) ∧
      Rep st γ w σ.boxes.length u c (fun b => ow b = some (.cell p.r p.k)) ∧ walkC p.steps c = some d ∧
      ∀ d' Z', Rep st γ w k v d' Z' → (∀ b, Z' b → ow b = some (.cell p.r p.k) → Z b) → Rep st γ w σ.boxes.length u (plant p.steps d' c) (fun b => (ow b = some (.cell p.r p.k) ∧ ¬ Z b) ∨ Z' b) := by
  unfold St.nodeC at hd
  cases hc : σ.root p.r p.k with
  | none => rw [hc] at hd; simp at hd
  | some c =>
    rw [hc] at hd
    simp only [Option.bind_some] at hd
    obtain ⟨u, hu, hr⟩ := R.cells _ _ _ hc
    obtain ⟨v, Z, k, hv, hvr, hk, hZ, hp⟩ := Rep.node p.steps hr hd
    exact ⟨c, u, v, Z, k, rfl, hu, by simp [placeV, hu, hv], hvr, hk, hZ, hr, hd, hp⟩

/-- An anchor that does not lie beyond p is there still when p has another content. -/
theorem nodeC_kept {p q : Place} {c' d0 d : C} (h0 : σ.nodeC p = some d0) (hd : σ.nodeC q = some d) (hq : ¬ (p.steps.length < q.steps.length ∧ p.r = q.r ∧ p.k = q.k ∧ pre p.steps q.steps)) :
    ∃ d', (σ.put p c').nodeC q = some d' ∧ (Alike d d' ∨ (d' = c' ∧ d = d0 ∧ q = p)) := by
  rw [nodeC_put]
  by_cases e : q.r = p.r ∧ q.k = p.k
  · rw [if_pos e]
    unfold St.nodeC at h0 hd
    rw [e.1, e.2] at hd ⊢
    cases hc : σ.root p.r p.k with
    | none => rw [hc] at h0; simp at h0
    | some c =>
      rw [hc] at h0 hd
      simp only [Option.map_some, Option.bind_some] at h0 hd ⊢
      obtain ⟨d', h1, h2⟩ := walkC_plant c' p.steps q.steps c d0 d h0 hd (fun hh => hq ⟨hh.1, e.1.symm, e.2.symm, hh.2⟩)
      exact ⟨d', h1, h2.imp id fun h => ⟨h.2.1, h.2.2, by cases q; cases p; simp_all⟩⟩
  · rw [if_neg e]
    exact ⟨d, hd, .inl (Alike.refl d)⟩

/-- Nothing lies beyond a number. -/
theorem walkC_leaf {x : Value} : ∀ (qs ps : List Step) {c d : C}, walkC qs c = some (.v x) → walkC ps c = some d → qs.length < ps.length → pre qs ps → False
  | [], [], _, _, _, _, h, _ => by simp at h
  | [], t :: ps, c, d, h0, hd, _, _ => by
    simp only [walkC, Option.some.injEq] at h0
    subst h0
    simp [walkC, C.asOwn] at hd
  | s :: qs, [], _, _, _, _, h, _ => by simp at h
  | s :: qs, t :: ps, c, d, h0, hd, hl, hp => by
    simp only [walkC, Option.bind_eq_some_iff] at h0 hd
    obtain ⟨x, hx, row, hrow, c1, hc1, h0⟩ := h0
    obtain ⟨y, hy, row2, hrow2, c2, hc2, hd⟩ := hd
    have hc := asOwn_some hx
    subst hc
    have hsz : s.sz = t.sz := by
      simp only [C.asOwn] at hy
      split at hy
      · assumption
      · cases hy
    obtain rfl : x = y := by simp [C.asOwn, hsz] at hy; exact hy
    rw [← hp.1, hrow] at hrow2
    cases hrow2
    rw [← hp.2.1, hc1] at hc2
    cases hc2
    exact walkC_leaf qs ps h0 hd (by simpa using hl) hp.2.2
theorem nodeC_leaf {p q : Place} {x : Value} {d : C} (h0 : σ.nodeC p = some (.v x)) (hd : σ.nodeC q = some d) (hr : p.r = q.r) (hk : p.k = q.k) (hl : p.steps.length < q.steps.length) (hp : pre p.steps q.steps) : False := by
  unfold St.nodeC at h0 hd
  rw [← hr, ← hk] at hd
  cases hc : σ.root p.r p.k with
  | none => rw [hc] at h0; simp at h0
  | some c =>
    rw [hc] at h0 hd
    exact walkC_leaf p.steps q.steps h0 hd hl hp
/-- The content at p becomes unknown (or a slice again), memory is as it was: what a slot says holds still, unless it names a place beyond p. -/
theorem CellOk.put {p : Place} {c' d0 : C} {u : Value} {c : C} (h0 : σ.nodeC p = some d0) (h : CellOk σ st γ w u c) (hf : c.beyond p = false ∨ ∃ x, d0 = .v x) (hc' : ∀ x, c' ≠ .v x) : CellOk (σ.put p c') st γ w u c := by
  induction h with
  | unk => exact .unk _
  | rep _ _ h => exact .rep _ _ (by rw [length_put]; exact h)
  | al q _ d hd hv hp =>
    obtain ⟨d', h1, h2⟩ := nodeC_kept (c' := c') h0 hd (fun hh => hf.elim (fun hf => by simp [C.beyond, hh.1, hh.2.1, hh.2.2.1, leads_of_pre hh.2.2.2] at hf) (fun ⟨x, hx⟩ => nodeC_leaf (hx ▸ h0) hd hh.2.1 hh.2.2.1 hh.1 hh.2.2.2))
    refine .al q _ d' h1 ?_ hp
    rcases h2 with h2 | ⟨h2, _, _⟩
    · exact h2.1 hv
    · rw [h2]; exact hc'
  | pl q before s d ad hs hd hx ha =>
    have hb : ¬ (p.steps.length < before.length ∧ p.r = q.r ∧ p.k = q.k ∧ pre p.steps before) := fun hh => by
      rcases hf with hf | ⟨x, hx⟩
      · have := leads_append s (leads_of_pre hh.2.2.2)
        rw [← hs] at this
        have hl : p.steps.length < q.steps.length := by rw [hs]; simp; omega
        simp [C.beyond, hl, hh.2.1, hh.2.2.1, this] at hf
      · exact nodeC_leaf (q := ⟨q.r, q.k, before⟩) (hx ▸ h0) hd hh.2.1 hh.2.2.1 hh.1 hh.2.2.2
    obtain ⟨d', h1, h2⟩ := nodeC_kept (q := ⟨q.r, q.k, before⟩) (c' := c') h0 hd hb
    rcases h2 with h2 | ⟨_, hdd, h2⟩
    · obtain ⟨x, hx⟩ := hx
      exact .pl q before s d' ad hs h1 (h2.2 _ _ hx) ha
    · rcases hf with hf | ⟨y, hy⟩
      case inr =>
        rename_i hdd
        rw [hdd, hy] at hx
        obtain ⟨x, hx⟩ := hx
        simp [C.asOwn] at hx
      have he : before = p.steps := by rw [← h2]
      have hl : leads p.steps q.steps = true := by rw [hs, he]; exact leads_append s (leads_refl _)
      have hlt : p.steps.length < q.steps.length := by rw [hs, he]; simp
      have hr : q.r = p.r := by rw [← h2]
      have hk : q.k = p.k := by rw [← h2]
      simp [C.beyond, hlt, hl, hr, hk] at hf
  | rp ad cs us h1 h2 h3 => exact .rp ad cs us h1 h2 h3
  | wi q sz l h' len cap ad h1 h2 h3 ih => exact .wi q sz l h' len cap ad (ih hf) h2 h3
  | pa r k g o ps us h1 h2 h3 h4 i3 i4 =>
    exact .pa r k g o ps us (by rw [length_put]; exact h1) h2 (fun j q hq => i3 j q hq (.inl (by simp [C.beyond]))) (fun j q hq => i4 j q hq (hf.imp (fun hf => paAny_false hf hq) id))

theorem getElem?_snoc {α : Type} {l : List α} {x y : α} {i : Nat} (h : (l ++ [x])[i]? = some y) : (i < l.length ∧ l[i]? = some y) ∨ (i = l.length ∧ y = x) := by
  rw [List.getElem?_append] at h
  split at h
  · exact .inl ⟨by assumption, h⟩
  · rename_i hi
    right
    have : i = l.length := by
      rcases Nat.lt_or_ge l.length i with hh | hh
      · rw [List.getElem?_eq_none (by simp; omega)] at h; cases h
      · omega
    subst this
    simp at h
    exact ⟨rfl, h.symm⟩
theorem getElem?_snoc_self {α : Type} (l : List α) (x : α) : (l ++ [x])[l.length]? = some x := by simp

/-- TAKE: a node's content comes into the hand. -/
theorem Rel.take (R : Rel B γ st ow hand σ tmps w) {p : Place} {d : C} (hd : σ.nodeC p = some d) :
    ∃ v ow', placeV γ w p = some v ∧ Rel B γ st ow' (hand ++ [(v, d)]) ((σ.put p .unk).kill (C.beyond p)) tmps w := by
  obtain ⟨c, u, v, Z, k, hc, hu, hv, hvr, hk, hZ, hr, hwc, hp⟩ := R.node hd
  have howhand : ∀ b i, ow b = some (.hand i) → ¬ Z b := fun b i h hz => by rw [hZ b hz] at h; cases h
  refine ⟨v, fun b => if Z b then some (.hand hand.length) else ow b, hv, ?_⟩
  constructor
  · exact R.tab
  · simpa [St.kill, St.put] using R.size
  · intro t s u hs hu
    simp only [St.kill, St.put, List.getElem?_map] at hs
    cases hq : σ.slots[t]? with
    | none => rw [hq] at hs; simp at hs
    | some s' =>
      rw [hq] at hs
      simp only [Option.map_some, Option.some.injEq] at hs
      subst hs
      exact (R.slots t s' u hq hu).killed _ fun u c h hf => CellOk.boxes (σ := σ.put p .unk) rfl (CellOk.put (c' := .unk) hd h (.inl hf) (fun x => by simp))
  · intro r j c1 hc1
    rw [root_kill, root_put] at hc1
    by_cases e : r = p.r ∧ j = p.k
    · rw [if_pos e] at hc1
      obtain ⟨e1, e2⟩ := e
      subst e1 e2
      rw [hc] at hc1
      simp only [Option.map_some, Option.some.injEq] at hc1
      subst hc1
      refine ⟨u, hu, ?_⟩
      have h1 := hp .unk (fun _ => False) (.unk _ _ _ hvr.one) (fun b h => h.elim)
      have hlen : ((σ.put p .unk).kill (C.beyond p)).boxes.length = σ.boxes.length := length_put _ _ _
      rw [hlen]
      refine h1.mono fun b hb => ?_
      rcases hb with ⟨hb, hz⟩ | hb
      · simp only [if_neg hz]; exact hb
      · exact hb.elim
    · rw [if_neg e] at hc1
      obtain ⟨u1, hu1, hr1⟩ := R.cells r j c1 hc1
      refine ⟨u1, hu1, ?_⟩
      have hlen : ((σ.put p .unk).kill (C.beyond p)).boxes.length = σ.boxes.length := length_put _ _ _
      rw [hlen]
      refine hr1.mono fun b hb => ?_
      by_cases hz : Z b
      · rw [hZ b hz] at hb
        simp only [Option.some.injEq, Ow.cell.injEq] at hb
        exact absurd ⟨hb.1.symm, hb.2.symm⟩ e
      · simp only [if_neg hz]; exact hb
  · intro r b g o hb hg
    obtain ⟨b', hb', h1, h2⟩ := box_put (show (σ.put p .unk).boxes[r]? = some b from hb)
    obtain ⟨h3, h4, h5⟩ := R.mem r b' g o hb' hg
    refine ⟨by rw [← h1]; exact h3, ?_, fun k hk => h5 k (by rw [h2]; exact hk)⟩
    have hz : ¬ Z g := fun hz => by rw [hZ g hz] at h4; cases h4
    simp only [if_neg hz]; exact h4
  · intro r b hb hf
    obtain ⟨b', hb', h1, _⟩ := box_put (show (σ.put p .unk).boxes[r]? = some b from hb)
    exact R.free r b' hb' (h1.trans hf)
  · intro i x hx
    have hlen : ((σ.put p .unk).kill (C.beyond p)).boxes.length = σ.boxes.length := length_put _ _ _
    rw [hlen]
    rcases getElem?_snoc hx with ⟨hi, hx⟩ | ⟨rfl, rfl⟩
    · refine (R.hands i x hx).mono fun b hb => ?_
      rw [if_neg (howhand b i hb)]
      exact hb
    · refine (hvr.frame (fun _ h => h) hk (fun _ _ => rfl) (fun _ _ => rfl)).mono fun b hb => ?_
      rw [if_pos hb]
  · intro b x hx
    by_cases hz : Z b
    · exact R.lt b _ (hZ b hz)
    · rw [if_neg hz] at hx; exact R.lt b x hx
  · intro b hb
    have := R.stlt b hb
    refine ⟨this.1, ?_⟩
    have hz : ¬ Z b := fun hz => by rw [hZ b hz] at this; cases this.2
    rw [if_neg hz]; exact this.2
  · exact R.chg
  · intro b x hx hb hne
    by_cases hz : Z b
    · exact R.mine b _ (hZ b hz) hb (fun r => by simp)
    · rw [if_neg hz] at hx; exact R.mine b x hx hb hne
  · intro r x hx
    have hlen : ((σ.put p .unk).kill (C.beyond p)).boxes.length = σ.boxes.length := length_put _ _ _
    rw [hlen]; exact R.pin r x hx

/-- What is in the hand last is let go. -/
theorem Rel.drop {x : Value × C} (R : Rel B γ st ow (hand ++ [x]) σ tmps w) : ∃ ow', Rel B γ st ow' hand σ tmps w := by
  refine ⟨fun b => if ow b = some (.hand hand.length) then none else ow b, ?_⟩
  have hsame : ∀ b y, ow b = some y → y ≠ .hand hand.length → (if ow b = some (.hand hand.length) then none else ow b) = some y := fun b y h hn => by
    rw [if_neg (by rw [h]; simp; exact hn), h]
  constructor
  · exact R.tab
  · exact R.size
  · exact R.slots
  · intro r k c hc
    obtain ⟨u, hu, hr⟩ := R.cells r k c hc
    exact ⟨u, hu, hr.mono fun b hb => hsame b _ hb (by simp)⟩
  · intro r b g o hb hg
    obtain ⟨h1, h2, h3⟩ := R.mem r b g o hb hg
    exact ⟨h1, hsame g _ h2 (by simp), h3⟩
  · exact R.free
  · intro i y hy
    have hi : i < hand.length := (List.getElem?_eq_some_iff.1 hy).1
    refine (R.hands i y (by rw [List.getElem?_append_left hi]; exact hy)).mono fun b hb => hsame b _ hb (by simp; omega)
  · intro b y hy
    by_cases h : ow b = some (.hand hand.length)
    · rw [if_pos h] at hy; cases hy
    · rw [if_neg h] at hy; exact R.lt b y hy
  · intro b hb
    have := R.stlt b hb
    refine ⟨this.1, ?_⟩
    by_cases h : ow b = some (.hand hand.length)
    · rw [if_pos h]
    · rw [if_neg h]; exact this.2
  · exact R.chg
  · intro b y hy hb hne
    by_cases h : ow b = some (.hand hand.length)
    · rw [if_pos h] at hy; cases hy
    · rw [if_neg h] at hy; exact R.mine b y hy hb hne
  · exact R.pin

/-- More is unknown of the slots. -/
theorem Rel.kill (R : Rel B γ st ow hand σ tmps w) (f : C → Bool) : Rel B γ st ow hand (σ.kill f) tmps w := by
  constructor
  · exact R.tab
  · simpa [St.kill] using R.size
  · intro t s u hs hu
    simp only [St.kill, List.getElem?_map] at hs
    cases hq : σ.slots[t]? with
    | none => rw [hq] at hs; simp at hs
    | some s' =>
      rw [hq] at hs
      simp only [Option.map_some, Option.some.injEq] at hs
      subst hs
      exact (R.slots t s' u hq hu).killed _ fun u c h _ => CellOk.boxes (σ := σ) rfl h
  · exact R.cells
  · exact R.mem
  · exact R.free
  · exact R.hands
  · exact R.lt
  · exact R.stlt
  · exact R.chg
  · exact R.mine
  · exact R.pin
end
end
end Go.Proofs.Gh
