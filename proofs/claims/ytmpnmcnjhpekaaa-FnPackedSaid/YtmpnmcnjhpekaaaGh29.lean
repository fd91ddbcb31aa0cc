/- A call: what is lent. -/
import Derived.Test.YtmpnmcnjhpekaaaGh28
set_option linter.unusedSimpArgs false
namespace Go.Proofs.Gh
open Go.RowKit
section
variable {P : Program} {E : Env} {B : Base} {γ : Nat → Bx} {st : Nat → Prop} {ow : Nat → Option Ow} {hand : List (Value × C)} {σ σ0 : St} {w : World} {r : Res} {tmps : Array Value}

/-- LEND: all that a box holds comes into the hand. -/
theorem Rel.emptyBox (R : Rel B γ st ow hand σ tmps w) {i : Nat} {b0 : Box} (hb0 : σ.boxes[i]? = some b0) :
    ∃ (us : List Value) (ow' : Nat → Option Ow), us.length = b0.cs.length ∧ (∀ (k : Nat) (u : Value), us[k]? = some u → cellV γ w i k = some u) ∧
      Rel B γ st ow' (hand ++ us.zip b0.cs) ({ σ with boxes := σ.boxes.set i ⟨b0.free, b0.cs.map fun _ => .unk⟩ }.kill (C.hitBox i)) tmps w := by
  have hilt : i < σ.boxes.length := (List.getElem?_eq_some_iff.1 hb0).1
  have hcell : ∀ (k : Nat) (c : C), b0.cs[k]? = some c → ∃ u, cellV γ w i k = some u ∧ Rep st γ w σ.boxes.length u c (fun b => ow b = some (.cell i k)) := fun k c hc => R.cells i k c (by unfold St.root; rw [hb0]; exact hc)
  have hus : ∀ (k : Nat) (u : Value), ((List.range b0.cs.length).map fun k => (cellV γ w i k).getD undef)[k]? = some u → cellV γ w i k = some u := fun k u h => by
    rw [List.getElem?_map] at h
    by_cases hk : k < b0.cs.length
    · rw [List.getElem?_range hk] at h
      obtain ⟨v, hv, _⟩ := hcell k b0.cs[k] (List.getElem?_eq_getElem hk)
      simp only [Option.map_some, hv, Option.getD_some, Option.some.injEq] at h
      rw [hv, h]
    · rw [List.getElem?_eq_none (by simpa using hk)] at h; cases h
  have hlen : ({ σ with boxes := σ.boxes.set i ⟨b0.free, b0.cs.map fun _ => .unk⟩ }.kill (C.hitBox i)).boxes.length = σ.boxes.length := by simp [St.kill]
  have hroot : ∀ (r k : Nat), ({ σ with boxes := σ.boxes.set i ⟨b0.free, b0.cs.map fun _ => .unk⟩ }.kill (C.hitBox i)).root r k = if r = i then (b0.cs.map fun _ => C.unk)[k]? else σ.root r k := fun r k => by
    unfold St.root St.kill
    simp only [List.getElem?_set]
    by_cases e : i = r
    · subst e; simp [hilt]
    · simp [e, Ne.symm e]
  have hbox : ∀ (r : Nat) (b : Box), ({ σ with boxes := σ.boxes.set i ⟨b0.free, b0.cs.map fun _ => .unk⟩ }.kill (C.hitBox i)).boxes[r]? = some b → ∃ b' : Box, σ.boxes[r]? = some b' ∧ b'.free = b.free ∧ b'.cs.length = b.cs.length := fun r b h => by
    simp only [St.kill, List.getElem?_set] at h
    by_cases e : i = r
    · subst e
      simp [hilt] at h
      subst h
      exact ⟨b0, hb0, rfl, by simp⟩
    · rw [if_neg e] at h; exact ⟨b, h, rfl, rfl⟩
  have how : ∃ ow' : Nat → Option Ow, (∀ b k, ow b = some (.cell i k) → ow' b = some (.hand (hand.length + k))) ∧ (∀ b y, ow b = some y → (∀ k, y ≠ .cell i k) → ow' b = some y) ∧ (∀ b, ow b = none → ow' b = none) ∧
      (∀ b y, ow' b = some y → ∃ y', ow b = some y' ∧ ((∀ r, y' ≠ .box r) ∨ y' = y)) := by
    refine ⟨fun b => match ow b with
      | some (.cell r k) => if r = i then some (.hand (hand.length + k)) else some (.cell r k)
      | x => x, fun b k h => by simp [h], fun b y h hn => ?_, fun b h => by simp [h], fun b y h => ?_⟩
    · simp only [h]
      cases y with
      | cell r k =>
        simp only
        rw [if_neg]
        intro e
        exact hn k (by rw [e])
      | _ => rfl
    · simp only at h
      cases ho : ow b with
      | none => rw [ho] at h; simp at h
      | some y' =>
        refine ⟨y', rfl, ?_⟩
        rw [ho] at h
        cases y' with
        | cell r k => exact .inl (fun r => by simp)
        | box r => simp at h; exact .inr h
        | hand k => simp at h; exact .inr h
  obtain ⟨ow', how1, how2, how3, how4⟩ := how
  refine ⟨_, ow', by simp, hus, ?_⟩
  constructor
  · exact R.tab
  · simpa [St.kill] using R.size
  · intro t s u hs' hu
    simp only [St.kill, List.getElem?_map] at hs'
    cases hq : σ.slots[t]? with
    | none => rw [hq] at hs'; simp at hs'
    | some s' =>
      rw [hq] at hs'
      simp only [Option.map_some, Option.some.injEq] at hs'
      subst hs'
      refine (R.slots t s' u hq hu).killed _ fun u c h hf => ?_
      have hnode : ∀ (q : Place), q.r ≠ i → ({ σ with boxes := σ.boxes.set i ⟨b0.free, b0.cs.map fun _ => .unk⟩ }.kill (C.hitBox i)).nodeC q = σ.nodeC q := fun q hq => by
        unfold St.nodeC; rw [hroot, if_neg hq]
      induction h with
      | unk => exact .unk _
      | rep _ _ h => exact .rep _ _ (by rw [hlen]; exact h)
      | al q _ d hd hv hp => exact .al q _ d ((hnode q (fun e => by simp [C.hitBox, e] at hf)).trans hd) hv hp
      | pl q before s d ad hs hd hx ha => exact .pl q before s d ad hs ((hnode ⟨q.r, q.k, before⟩ (fun e => by simp only at e; simp [C.hitBox, e, hs] at hf)).trans hd) hx ha
      | rp ad cs us h1 h2 h3 => exact .rp ad cs us h1 h2 h3
      | wi q sz l h' len cap ad h1 h2 h3 ih => exact .wi q sz l h' len cap ad (ih hf) h2 h3
      | pa r k g o ps us h1 h2 h3 h4 i3 i4 =>
        simp only [C.hitBox, Bool.or_eq_false_iff] at hf
        exact .pa r k g o ps us (by rw [hlen]; exact h1) h2 (fun j q hq => i3 j q hq hf.1) (fun j q hq => i4 j q hq (paAny_false hf.2 hq))
  · intro r k c hc
    rw [hroot] at hc
    rw [hlen]
    by_cases e : r = i
    · rw [if_pos e] at hc
      subst e
      rw [List.getElem?_map] at hc
      cases hx : b0.cs[k]? with
      | none => rw [hx] at hc; simp at hc
      | some x =>
        rw [hx] at hc
        simp only [Option.map_some, Option.some.injEq] at hc
        subst hc
        obtain ⟨u, hu, hr⟩ := hcell k x hx
        exact ⟨u, hu, .unk _ _ _ hr.one⟩
    · rw [if_neg e] at hc
      obtain ⟨u, hu, hr⟩ := R.cells r k c hc
      exact ⟨u, hu, hr.mono fun b hb => how2 b _ hb (by intro k'; simp [e])⟩
  · intro r b g o hb hg
    obtain ⟨b', hb', h1, h2⟩ := hbox r b hb
    obtain ⟨h3, h4, h5⟩ := R.mem r b' g o hb' hg
    exact ⟨by rw [← h1]; exact h3, how2 g _ h4 (by simp), fun k hk => h5 k (by rw [h2]; exact hk)⟩
  · intro r b hb hf
    obtain ⟨b', hb', h1, _⟩ := hbox r b hb
    exact R.free r b' hb' (h1.trans hf)
  · intro j x hx
    rw [hlen]
    by_cases hj : j < hand.length
    · exact (R.hands j x (by rw [List.getElem?_append_left hj] at hx; exact hx)).mono fun b hb => how2 b _ hb (by simp)
    · rw [List.getElem?_append_right (by omega), List.getElem?_zip_eq_some] at hx
      obtain ⟨u, hu, hr⟩ := hcell _ _ hx.2
      have := hus _ _ hx.1
      rw [hu] at this
      rw [← Option.some.inj this]
      refine hr.mono fun b hb => ?_
      have := how1 b _ hb
      rwa [show hand.length + (j - hand.length) = j by omega] at this
  · intro b y hy
    obtain ⟨y', h, _⟩ := how4 b y hy
    exact R.lt b y' h
  · intro b hb
    have := R.stlt b hb
    exact ⟨this.1, how3 b this.2⟩
  · exact R.chg
  · intro b y hy hb hne
    obtain ⟨y', h, h'⟩ := how4 b y hy
    refine R.mine b _ h hb ?_
    rcases h' with h' | h'
    · exact h'
    · rw [h']; exact hne
  · intro j x hx
    rw [hlen]; exact R.pin j x hx

/-- A cell that is lent: what the caller had, what the callee gets. -/
inductive LentC (γ : Nat → Bx) (w : World) (bxs : List Nat) : Value → C → C → Prop
  | al (p u nl sz es) : p.r ∉ bxs → placeV γ w p = some u → LentC γ w bxs u (.al p) (.sl true nl sz es)
  | same (u c) : (∀ p, c ≠ .al p) → LentC γ w bxs u c c
inductive LentA (σ0 : St) (st : Nat → Prop) (γ : Nat → Bx) (w : World) (bxs : List Nat) : Mode → S → Value → S → List (Value × C) → List Nat → Prop
  | ro (x u) : SlotOk σ0 st γ w u x → LentA σ0 st γ w bxs .ro x u x [] []
  | own (m c u d) : m ≠ .ro → LentC γ w bxs u c d → d.asSlB = true → LentA σ0 st γ w bxs m (.one c) u (.one d) [(u, d)] []
  | val (m u d) : m ≠ .ro → (∃ x, d = .v x) ∨ (∃ b, d = .ifc b) → Rep st γ w 0 u d (fun _ => False) → LentA σ0 st γ w bxs m (.one d) u (.one d) [] []
  | agg (m cs) (us : List Value) (ds) : m ≠ .ro → us.length = cs.length → us.length = ds.length → (∀ (i : Nat) (u : Value) (c d : C), us[i]? = some u → cs[i]? = some c → ds[i]? = some d → LentC γ w bxs u c d) → LentA σ0 st γ w bxs m (.agg cs) (.agg us.toArray) (.agg ds) (us.zip ds) []
  | bx (i g o) (us : List Value) (cs : List C) : (∃ b, σ0.boxes[i]? = some b ∧ b.cs = cs) → γ i = .mem g o → us.length = cs.length → (∀ (k : Nat) (u : Value), us[k]? = some u → w.cell? ⟨g, o + k, none⟩ = some u) → LentA σ0 st γ w bxs .io (.one (.pl ⟨i, 0, []⟩)) (.pointer (some ⟨g, o, none⟩)) (.one (.bx cs)) (us.zip cs) [i]
/-- What becomes of the boxes. -/
structure BoxesTo (bxs gs : List Nat) (σ σ' : St) : Prop where
  len : σ'.boxes.length = σ.boxes.length
  kept : ∀ i ∈ bxs, i ∉ gs → σ'.boxes[i]? = σ.boxes[i]?
  gone : ∀ i ∈ gs, ∃ b, σ.boxes[i]? = some b ∧ σ'.boxes[i]? = some ⟨false, b.cs.map fun _ => .unk⟩
theorem lendCell_ok {bxs : List Nat} {u : Value} {c : C} {k : C → St → Option Res} (R : Rel B γ st ow hand σ tmps w) (hc : Pre σ.boxes.length st γ w u c) (h : lendCellK bxs σ c k = some r) :
    ∃ d σ' ow', k d σ' = some r ∧ Rel B γ st ow' (hand ++ [(u, d)]) σ' tmps w ∧ BoxesTo bxs [] σ σ' ∧ LentC γ w bxs u c d ∧ (d.asSlB = true ∨ (c = d ∧ σ' = σ ∧ Rep st γ w 0 u d (fun _ => False) ∧ ((∃ x, d = .v x) ∨ (∃ b, d = .ifc b)))) := by
  have hid : BoxesTo bxs [] σ σ := ⟨rfl, fun _ _ _ => rfl, fun _ h => by cases h⟩
  unfold lendCellK at h
  split at h
  · rename_i p
    split at h
    · cases h
    · rename_i hb
      have hb' : p.r ∉ bxs := by simpa using hb
      rw [nodeK_eq, Option.bind_eq_some_iff] at h
      obtain ⟨d, hd, h⟩ := h
      obtain ⟨⟨nl, sz, es⟩, hx, h⟩ := Option.bind_eq_some_iff.1 h
      have hde : d = .sl true nl sz es := by
        unfold C.ownAny at hx
        split at hx
        · cases hx; rfl
        · cases hx
      subst hde
      · obtain ⟨v, ow', hv, R'⟩ := R.take hd
        have hcv : placeV γ w p = some u := hc
        rw [hcv] at hv; cases hv
        refine ⟨_, _, ow', h, R', ⟨length_put _ _ _, fun i hi _ => ?_, fun _ h => by cases h⟩, .al p u nl sz es hb' hcv, .inl rfl⟩
        simp only [St.kill, St.put]
        exact getElem?_modify_ne _ _ (fun e => hb' (e ▸ hi))
  · rename_i nl sz
    have hc' : Rep st γ w σ.boxes.length u (.sl true nl sz []) (fun _ => False) := hc
    obtain ⟨ow', R'⟩ := R.take0 hc'
    exact ⟨_, σ, ow', h, R', hid, .same _ _ (by simp), .inl rfl⟩
  · rename_i x
    have hc' : Rep st γ w σ.boxes.length u (.v x) (fun _ => False) := hc
    obtain ⟨ow', R'⟩ := R.take0 hc'
    exact ⟨_, σ, ow', h, R', hid, .same _ _ (by simp), .inr ⟨rfl, rfl, by cases hc' with | v _ _ _ h1 => exact .v _ _ _ h1, .inl ⟨x, rfl⟩⟩⟩
  · rename_i b
    have hc' : Rep st γ w σ.boxes.length u (.ifc b) (fun _ => False) := hc
    obtain ⟨ow', R'⟩ := R.take0 hc'
    exact ⟨_, σ, ow', h, R', hid, .same _ _ (by simp), .inr ⟨rfl, rfl, by cases hc' with | ifcNil => exact .ifcNil _ _ | ifc _ t u => exact .ifc _ _ _ _, .inr ⟨b, rfl⟩⟩⟩
  · cases h
theorem BoxesTo.trans {bxs gs gs' : List Nat} {σ σ' σ'' : St} (h : BoxesTo bxs gs σ σ') (h' : BoxesTo bxs gs' σ' σ'') (hs : ∀ i ∈ gs, i ∈ bxs ∧ i ∉ gs') (hs' : ∀ i ∈ gs', i ∈ bxs ∧ i ∉ gs) : BoxesTo bxs (gs ++ gs') σ σ'' := by
  refine ⟨h'.len.trans h.len, fun i hi hn => ?_, fun i hi => ?_⟩
  · simp only [List.mem_append, not_or] at hn
    exact (h'.kept i hi hn.2).trans (h.kept i hi hn.1)
  · rcases List.mem_append.1 hi with hi | hi
    · obtain ⟨b, h1, h2⟩ := h.gone i hi
      exact ⟨b, h1, (h'.kept i (hs i hi).1 (hs i hi).2).trans h2⟩
    · obtain ⟨b, h1, h2⟩ := h'.gone i hi
      exact ⟨b, (h.kept i (hs' i hi).1 (hs' i hi).2).symm.trans h1, h2⟩
theorem lendCells_ok {bxs : List Nat} : ∀ (cs : List C) (us : List Value) {ow : Nat → Option Ow} {hand : List (Value × C)} {σ : St} {k : List C → St → Option Res}, Rel B γ st ow hand σ tmps w → us.length = cs.length →
    (∀ (i : Nat) (u : Value) (c : C), us[i]? = some u → cs[i]? = some c → Pre σ.boxes.length st γ w u c) → lendCellsK bxs σ cs k = some r →
    ∃ ds σ' ow', k ds σ' = some r ∧ Rel B γ st ow' (hand ++ us.zip ds) σ' tmps w ∧ BoxesTo bxs [] σ σ' ∧ us.length = ds.length ∧ (∀ (i : Nat) (u : Value) (c d : C), us[i]? = some u → cs[i]? = some c → ds[i]? = some d → LentC γ w bxs u c d) ∧ ∀ d ∈ ds, d.Nests
  | [], us, ow, hand, σ, k, R, hl, _, h => by
    have : us = [] := List.eq_nil_of_length_eq_zero hl
    subst this
    exact ⟨[], σ, ow, h, by simpa using R, ⟨rfl, fun _ _ _ => rfl, fun _ h => by cases h⟩, rfl, by simp, by simp⟩
  | c :: cs, us, ow, hand, σ, k, R, hl, hc, h => by
    cases us with
    | nil => simp at hl
    | cons u us =>
      unfold lendCellsK at h
      obtain ⟨d, σ1, ow1, h1, R1, hb1, hl1, ho1⟩ := lendCell_ok R (hc 0 u c rfl rfl) h
      obtain ⟨ds, σ2, ow2, h2, R2, hb2, hl2, hlc, hn⟩ := lendCells_ok cs us R1 (by simpa using hl) (fun i u c hu hcs => by rw [hb1.len]; exact hc (i + 1) u c (by simpa using hu) (by simpa using hcs)) h1
      refine ⟨d :: ds, σ2, ow2, h2, by simpa using R2, hb1.trans hb2 (by simp) (by simp), by simpa using hl2, fun i u' c' d' hu hc' hd => ?_, fun d' hd' => ?_⟩
      · cases i with
        | zero => simp only [List.getElem?_cons_zero, Option.some.injEq] at hu hc' hd; subst hu hc' hd; exact hl1
        | succ i => exact hlc i u' c' d' (by simpa using hu) (by simpa using hc') (by simpa using hd)
      · rcases List.mem_cons.1 hd' with rfl | hd'
        · rcases ho1 with ho | ⟨_, _, _, ⟨x, rfl⟩ | ⟨b, rfl⟩⟩
          · obtain ⟨nl, sz, es, rfl⟩ := own_slB ho; exact .inl rfl
          · exact .inr rfl
          · exact .inr rfl
        · exact hn d' hd'
end
end Go.Proofs.Gh
