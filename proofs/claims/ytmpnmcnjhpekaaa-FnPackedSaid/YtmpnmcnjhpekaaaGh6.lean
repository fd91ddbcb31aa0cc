/- A ghost state and the machine's, once more: new boxes, new memory, stores. -/
import Derived.Test.YtmpnmcnjhpekaaaGh5
namespace Go.Proofs.Gh
open Go.RowKit
open Classical in
section

/-- Memory only grows. -/
def Grows (w w' : World) : Prop := ∀ b, b < w.heap.size → w'.heap[b]? = w.heap[b]?
theorem Grows.cell {w w' : World} (h : Grows w w') {a : Addr} {v : Value} (hv : w.cell? a = some v) : w'.cell? a = some v :=
  (World.cell?_of_block (h _ (block_lt_of_cell hv))).trans hv
theorem Grows.walkV {w w' : World} (h : Grows w w') : ∀ (steps : List Step) {u v : Value}, walkV w steps u = some v → walkV w' steps u = some v
  | [], _, _, hv => hv
  | s :: rest, .slice (some a) _ _, v, hv => by
    simp only [Gh.walkV, Option.bind_eq_some_iff] at hv ⊢
    obtain ⟨x, hx, hv⟩ := hv
    exact ⟨x, h.cell hx, h.walkV rest hv⟩
theorem Grows.cellV {w w' : World} (h : Grows w w') {γ γ' : Nat → Bx} {r k : Nat} {v : Value} (hγ : γ' r = γ r) (hv : cellV γ w r k = some v) : cellV γ' w' r k = some v := by
  unfold Gh.cellV at hv ⊢
  rw [hγ]
  cases hb : γ r with
  | mem g o => rw [hb] at hv; exact h.cell hv
  | val vs => rw [hb] at hv; exact hv
theorem Grows.placeV {w w' : World} (h : Grows w w') {γ γ' : Nat → Bx} {p : Place} {v : Value} (hγ : γ' p.r = γ p.r) (hv : placeV γ w p = some v) : placeV γ' w' p = some v := by
  unfold Gh.placeV at hv ⊢
  simp only [Option.bind_eq_some_iff] at hv ⊢
  obtain ⟨x, hx, hv⟩ := hv
  exact ⟨x, h.cellV hγ hx, h.walkV _ hv⟩
theorem Grows.placeA {w w' : World} (h : Grows w w') {γ γ' : Nat → Bx} {r k : Nat} {before : List Step} {s : Step} {a : Addr} (hγ : γ' r = γ r) (hv : placeA γ w ⟨r, k, before ++ [s]⟩ = some a) :
    placeA γ' w' ⟨r, k, before ++ [s]⟩ = some a := by
  rw [placeA_append] at hv ⊢
  simp only [Option.bind_eq_some_iff] at hv ⊢
  obtain ⟨x, hx, hv⟩ := hv
  exact ⟨x, h.placeV hγ hx, hv⟩
theorem CellOk.grow {σ σ' : St} {st st' : Nat → Prop} {γ γ' : Nat → Bx} {w w' : World} {u : Value} {c : C} (h : CellOk σ st γ w u c)
    (hn : ∀ p c, σ.nodeC p = some c → σ'.nodeC p = some c) (hl : σ.boxes.length ≤ σ'.boxes.length) (hγ : ∀ r, r < σ.boxes.length → γ' r = γ r) (hw : Grows w w') (hst : ∀ b, st b → st' b) (hlt : ∀ b, st b → b < w.heap.size) :
    CellOk σ' st' γ' w' u c := by
  induction h with
  | unk => exact .unk _
  | rep _ _ h => exact .rep _ _ (h.frame hst hl hγ (fun b hb => hb.elim (fun hb => hw b (hlt b hb)) (fun h => h.elim)))
  | al q _ d hd hv hp => exact .al q _ d (hn _ _ hd) hv (hw.placeV (hγ _ (nodeC_lt hd)) hp)
  | pl q before s d ad hs hd hx ha =>
    refine .pl q before s d ad hs (hn _ _ hd) hx ?_
    obtain ⟨r, k, steps⟩ := q
    simp only at hs
    subst hs
    exact hw.placeA (hγ _ (nodeC_lt hd)) ha
  | rp ad cs us h1 h2 h3 =>
    exact .rp ad cs us (fun h => hst _ (h1 h)) (fun j c hj => hw.cell (h2 j c hj)) (fun j c hj => (h3 j c hj).frame hst (Nat.le_refl 0) (fun r hr => absurd hr (Nat.not_lt_zero r)) (fun b hb => hb.elim (fun hb => hw b (hlt b hb)) (fun h => h.elim)))
  | wi p sz l h len cap ad h1 h2 h3 ih => exact .wi p sz l h len cap ad ih h2 h3
  | pa r k g o ps us h1 h2 h3 h4 i3 i4 => exact .pa r k g o ps us (Nat.lt_of_lt_of_le h1 hl) ((hγ r h1).trans h2) i3 i4
theorem Grows.refl (w : World) : Grows w w := fun _ _ => rfl
theorem Grows.alloc (w : World) (o : Obj) : Grows w (w.alloc o) := fun b hb => Below.heap_alloc w o b hb

theorem Chg.alloc {B : Base} {w : World} (h : Chg B w) (o : Obj) : Chg B (w.alloc o) := by
  have hs := h.size
  have hb : ∀ b, b < B.w.heap.size → (w.alloc o).heap[b]? = w.heap[b]? := fun b hb => Below.heap_alloc w o b (by omega)
  exact ⟨h.os, h.tape, h.output, by simp; omega, fun b hlt hy => (hb b hlt).trans (h.same b hlt hy), fun b o hlt hy =>
    ⟨(World.cell?_of_block (w := w) (hb b hlt)).trans (h.part b o hlt hy).1, (World.frozen?_of_block (w := w) (hb b hlt)).trans (h.part b o hlt hy).2⟩⟩
theorem Chg.drew {B : Base} {w : World} (h : Chg B w) : Chg B w.drew := ⟨h.os, h.tape, h.output, h.size, h.same, h.part⟩
theorem Chg.setCell {B : Base} {w : World} (h : Chg B w) (g o : Nat) (v : Value) (hY : g < B.w.heap.size → B.Y g o) : Chg B (w.setCell ⟨g, o, none⟩ v) := by
  have hfr : ∀ b, b ≠ g → (w.setCell ⟨g, o, none⟩ v).heap[b]? = w.heap[b]? := fun b hb => heap_setCell_other w _ b v hb
  refine ⟨h.os, h.tape, h.output, by simp [World.setCell]; exact h.size, fun b hlt hy => ?_, fun b o' hlt hy => ?_⟩
  · have hne : b ≠ g := fun e => by subst e; exact hy o (hY hlt)
    exact (hfr b hne).trans (h.same b hlt hy)
  · by_cases e : b = g
    · subst e
      have hne : o' ≠ o := fun e => by subst e; exact hy (hY hlt)
      obtain ⟨h1, h2⟩ := h.part b o' hlt hy
      rw [← h1, ← h2]
      constructor
      · simp only [World.cell?, World.setCell, Array.getElem?_modify]
        cases w.heap[b]? with
        | none => rfl
        | some ob => cases ob <;> simp [Array.getElem?_setIfInBounds_ne (Ne.symm hne)]
      · simp only [World.frozen?, World.setCell, Array.getElem?_modify]
        cases w.heap[b]? with
        | none => rfl
        | some ob => cases ob <;> simp
    · exact ⟨(World.cell?_of_block (w := w) (hfr b e)).trans (h.part b o' hlt hy).1, (World.frozen?_of_block (w := w) (hfr b e)).trans (h.part b o' hlt hy).2⟩

section
variable {B : Base} {γ : Nat → Bx} {st : Nat → Prop} {ow : Nat → Option Ow} {hand : List (Value × C)} {σ : St} {tmps : Array Value} {w : World}

/-- HAND: something that owns nothing comes into the hand. -/
theorem Rel.take0 (R : Rel B γ st ow hand σ tmps w) {u : Value} {c : C} (h : Rep st γ w σ.boxes.length u c (fun _ => False)) :
    ∃ ow', Rel B γ st ow' (hand ++ [(u, c)]) σ tmps w := by
  -- what named this place of the hand before names nothing
  refine ⟨fun b => if ow b = some (.hand hand.length) then none else ow b, ?_⟩
  have hsame : ∀ b y, ow b = some y → y ≠ .hand hand.length → (if ow b = some (.hand hand.length) then none else ow b) = some y := fun b y h hn => by
    rw [if_neg (by rw [h]; simp; exact hn), h]
  constructor
  · exact R.tab
  · exact R.size
  · exact R.slots
  · intro r k c hc
    obtain ⟨u, hu, hr⟩ := R.cells r k c hc
    exact ⟨u, hu, hr.mono fun b hb => hsame b _ hb (by simp)⟩
  · intro r b g o hb hg
    obtain ⟨h1, h2, h3⟩ := R.mem r b g o hb hg
    exact ⟨h1, hsame g _ h2 (by simp), h3⟩
  · exact R.free
  · intro i y hy
    rcases getElem?_snoc hy with ⟨hi, hy⟩ | ⟨rfl, rfl⟩
    · exact (R.hands i y hy).mono fun b hb => hsame b _ hb (by simp; omega)
    · exact h.mono fun b hb => hb.elim
  · intro b y hy
    by_cases h : ow b = some (.hand hand.length)
    · rw [if_pos h] at hy; cases hy
    · rw [if_neg h] at hy; exact R.lt b y hy
  · intro b hb
    have := R.stlt b hb
    refine ⟨this.1, ?_⟩
    by_cases h : ow b = some (.hand hand.length)
    · rw [if_pos h]
    · rw [if_neg h]; exact this.2
  · exact R.chg
  · intro b y hy hb hne
    by_cases h : ow b = some (.hand hand.length)
    · rw [if_pos h] at hy; cases hy
    · rw [if_neg h] at hy; exact R.mine b y hy hb hne
  · exact R.pin

/-- ASSIGN: a slot is written. -/
theorem Rel.assign (R : Rel B γ st ow hand σ tmps w) {s : S} {u : Value} (t : Nat) (h : SlotOk σ st γ w u s) : Rel B γ st ow hand (σ.assign t s) (tmps.setIfInBounds t u) w := by
  constructor
  · exact R.tab
  · simpa [St.assign] using R.size
  · intro t' s' u' hs hu
    simp only [St.assign] at hs
    rw [Array.getElem?_setIfInBounds] at hu
    by_cases e : t = t'
    · subst e
      have hlt : t < tmps.size := by
        by_cases hlt : t < tmps.size
        · exact hlt
        · simp [hlt] at hu
      rw [List.getElem?_set_self (by rw [← R.size]; exact hlt)] at hs
      simp [hlt] at hu
      cases hs
      subst hu
      exact h.move fun u c h => CellOk.boxes (σ := σ) rfl h
    · rw [List.getElem?_set_ne e] at hs
      rw [if_neg e] at hu
      exact (R.slots t' s' u' hs hu).move fun u c h => CellOk.boxes (σ := σ) rfl h
  · exact R.cells
  · exact R.mem
  · exact R.free
  · exact R.hands
  · exact R.lt
  · exact R.stlt
  · exact R.chg
  · exact R.mine
  · exact R.pin

/-- DRAW: the tape moves on. -/
theorem Rel.drew (R : Rel B γ st ow hand σ tmps w) : Rel B γ st ow hand σ tmps w.drew := by
  have hg : Grows w w.drew := fun _ _ => rfl
  have hrep : ∀ {n u c X}, Rep st γ w n u c X → Rep st γ w.drew n u c X := fun h => h.same fun _ _ => rfl
  exact ⟨R.tab, R.size, fun t s u hs hu => (R.slots t s u hs hu).move fun u c h => h.grow (fun _ _ h => h) (Nat.le_refl _) (fun _ _ => rfl) hg (fun _ h => h) (fun b hb => (R.stlt b hb).1),
    fun r k c hc => let ⟨u, hu, hr⟩ := R.cells r k c hc; ⟨u, hg.cellV rfl hu, hrep hr⟩, R.mem, R.free, fun i x hx => hrep (R.hands i x hx), R.lt, R.stlt, R.chg.drew, R.mine, R.pin⟩

/-- NEW: what is in the hand last gets a box that is no memory. -/
theorem Rel.newFree {v : Value} {d : C} (R : Rel B γ st ow (hand ++ [(v, d)]) σ tmps w) (hd : ∀ x, d ≠ .v x) :
    ∃ γ' ow', Rel B γ' st ow' hand (σ.new true [d]) tmps w ∧ CellOk (σ.new true [d]) st γ' w v (.al ⟨σ.boxes.length, 0, []⟩) ∧
      ∀ u s, SlotOk σ st γ w u s → SlotOk (σ.new true [d]) st γ' w u s := by
  have hγ : ∀ r, r < σ.boxes.length → (fun r => if r = σ.boxes.length then Bx.val [v] else γ r) r = γ r := fun r hr => if_neg (by omega)
  have hl : (σ.new true [d]).boxes.length = σ.boxes.length + 1 := by simp [St.new]
  have hrep : ∀ {n u c X}, n ≤ σ.boxes.length → Rep st γ w n u c X → Rep st (fun r => if r = σ.boxes.length then Bx.val [v] else γ r) w (σ.new true [d]).boxes.length u c X := fun hn h =>
    h.frame (fun _ h => h) (by rw [hl]; omega) (fun r hr => hγ r (by omega)) (fun _ _ => rfl)
  have hsame : ∀ b y, ow b = some y → y ≠ .hand hand.length → (if ow b = some (.hand hand.length) then some (.cell σ.boxes.length 0) else ow b) = some y := fun b y h hn => by
    rw [if_neg (by rw [h]; simp; exact hn), h]
  have hcell : ∀ u s, SlotOk σ st γ w u s → SlotOk (σ.new true [d]) st (fun r => if r = σ.boxes.length then Bx.val [v] else γ r) w u s := fun u s h =>
    h.move fun u c h => h.grow (fun p c h => nodeC_new _ _ h) (by rw [hl]; omega) hγ (Grows.refl w) (fun _ h => h) (fun b hb => (R.stlt b hb).1)
  refine ⟨fun r => if r = σ.boxes.length then Bx.val [v] else γ r, fun b => if ow b = some (.hand hand.length) then some (.cell σ.boxes.length 0) else ow b, ?_, ?_, hcell⟩
  · constructor
    · exact R.tab
    · exact R.size
    · intro t s u hs hu; exact hcell u s (R.slots t s u hs hu)
    · intro r k c hc
      rw [root_new] at hc
      by_cases e : r = σ.boxes.length
      · rw [if_pos e] at hc
        have hk : k = 0 ∧ c = d := by
          cases k with
          | zero => simpa using hc.symm
          | succ k => simp at hc
        obtain ⟨rfl, rfl⟩ := hk
        subst e
        refine ⟨v, by simp [cellV], (hrep (Nat.le_refl _) (R.hands hand.length (v, c) (getElem?_snoc_self _ _))).mono fun b hb => by rw [if_pos hb]⟩
      · rw [if_neg e] at hc
        obtain ⟨u, hu, hr⟩ := R.cells r k c hc
        exact ⟨u, (Grows.refl w).cellV (hγ r (root_lt hc)) hu, (hrep (Nat.le_refl _) hr).mono fun b hb => hsame b _ hb (by simp)⟩
    · intro r b g o hb hg
      by_cases e : r = σ.boxes.length
      · simp [e] at hg
      · simp only [if_neg e] at hg
        have hb' : σ.boxes[r]? = some b := by
          simp only [St.new] at hb
          rcases getElem?_snoc hb with ⟨_, h⟩ | ⟨h, _⟩
          · exact h
          · exact absurd h e
        obtain ⟨h1, h2, h3⟩ := R.mem r b g o hb' hg
        exact ⟨h1, hsame g _ h2 (by simp), h3⟩
    · intro r b hb hf
      by_cases e : r = σ.boxes.length
      · exact ⟨[v], by simp [e]⟩
      · simp only [if_neg e]
        simp only [St.new] at hb
        rcases getElem?_snoc hb with ⟨_, h⟩ | ⟨h, _⟩
        · exact R.free r b h hf
        · exact absurd h e
    · intro i y hy
      have hi : i < hand.length := (List.getElem?_eq_some_iff.1 hy).1
      exact (hrep (Nat.le_refl _) (R.hands i y (by rw [List.getElem?_append_left hi]; exact hy))).mono fun b hb => hsame b _ hb (by simp; omega)
    · intro b y hy
      by_cases h : ow b = some (.hand hand.length)
      · exact R.lt b _ h
      · rw [if_neg h] at hy; exact R.lt b y hy
    · intro b hb
      have := R.stlt b hb
      refine ⟨this.1, ?_⟩
      rw [if_neg (by rw [this.2]; simp)]; exact this.2
    · exact R.chg
    · intro b y hy hb hne
      by_cases h : ow b = some (.hand hand.length)
      · exact R.mine b _ h hb (by simp)
      · rw [if_neg h] at hy; exact R.mine b y hy hb hne
    · intro r x hx
      obtain ⟨h1, h2⟩ := R.pin r x hx
      exact ⟨by rw [hl]; omega, (hγ r h1).trans h2⟩
  · exact .al _ _ d (by simp [St.nodeC, root_new, walkC]) hd (by simp [placeV, cellV, walkV])

/-- ALLOC: all that is in the hand behind a beginning goes into a new block, which a box stands for. -/
theorem Rel.newMem {hs : List (Value × C)} (R : Rel B γ st ow (hand ++ hs) σ tmps w) (e : TypeId) :
    ∃ γ' ow', Rel B γ' st ow' hand (σ.new false (hs.map (·.2))) tmps (w.alloc (.cells (hs.map (·.1)).toArray e)) ∧
      CellOk (σ.new false (hs.map (·.2))) st γ' (w.alloc (.cells (hs.map (·.1)).toArray e)) (.pointer (some ⟨w.heap.size, 0, none⟩)) (.pl ⟨σ.boxes.length, 0, []⟩) := by
  have hγ : ∀ r, r < σ.boxes.length → (fun r => if r = σ.boxes.length then Bx.mem w.heap.size 0 else γ r) r = γ r := fun r hr => if_neg (by omega)
  have hl : (σ.new false (hs.map (·.2))).boxes.length = σ.boxes.length + 1 := by simp [St.new]
  have hgr := Grows.alloc w (.cells (hs.map (·.1)).toArray e)
  have hrep : ∀ {n u c X}, n ≤ σ.boxes.length → (∀ b, X b → b < w.heap.size) → Rep st γ w n u c X →
      Rep st (fun r => if r = σ.boxes.length then Bx.mem w.heap.size 0 else γ r) (w.alloc (.cells (hs.map (·.1)).toArray e)) (σ.new false (hs.map (·.2))).boxes.length u c X := fun hn hX h =>
    h.frame (fun _ h => h) (by rw [hl]; omega) (fun r hr => hγ r (by omega)) (fun b hb => hgr b (hb.elim (fun hb => (R.stlt b hb).1) (hX b)))
  have hnew := heap_alloc_new w (.cells (hs.map (·.1)).toArray e)
  -- whose a block is now
  have how : ∃ ow' : Nat → Option Ow, ow' w.heap.size = some (.box σ.boxes.length) ∧ (∀ b i, ow b = some (.hand (hand.length + i)) → ow' b = some (.cell σ.boxes.length i)) ∧
      (∀ b y, ow b = some y → (∀ i, y ≠ .hand (hand.length + i)) → ow' b = some y) ∧ (∀ b, b ≠ w.heap.size → ow b = none → ow' b = none) ∧
      (∀ b y, ow' b = some y → (b = w.heap.size ∧ y = .box σ.boxes.length) ∨ (∃ y', ow b = some y' ∧ ((∀ r, y' ≠ .box r) ∨ y' = y))) := by
    refine ⟨fun b => if b = w.heap.size then some (.box σ.boxes.length) else match ow b with
      | some (.hand i) => if hand.length ≤ i then some (.cell σ.boxes.length (i - hand.length)) else some (.hand i)
      | x => x, by simp, fun b i h => ?_, fun b y h hn => ?_, fun b hb h => by simp [hb, h], fun b y h => ?_⟩
    · have := R.lt b _ h
      simp [show b ≠ w.heap.size by omega, h]
    · have := R.lt b _ h
      simp only [show b ≠ w.heap.size by omega, if_false, h]
      cases y with
      | hand i =>
        simp only
        rw [if_neg]
        intro hle
        exact hn (i - hand.length) (by rw [Nat.add_sub_cancel' hle])
      | _ => rfl
    · by_cases hb : b = w.heap.size
      · simp [hb] at h; exact .inl ⟨hb, h.symm⟩
      · simp only [hb, if_false] at h
        right
        cases ho : ow b with
        | none => rw [ho] at h; simp at h
        | some y' =>
          refine ⟨y', rfl, ?_⟩
          rw [ho] at h
          cases y' with
          | hand i => exact .inl (fun r => by simp)
          | box r => simp at h; exact .inr h
          | cell r k => simp at h; exact .inr h
  obtain ⟨ow', how1, how2, how3, how4, how5⟩ := how
  refine ⟨fun r => if r = σ.boxes.length then Bx.mem w.heap.size 0 else γ r, ow', ?_, ?_⟩
  · constructor
    · exact R.tab
    · exact R.size
    · intro t s u hs' hu
      exact (R.slots t s u hs' hu).move fun u c h => h.grow (fun p c h => nodeC_new _ _ h) (by rw [hl]; omega) hγ hgr (fun _ h => h) (fun b hb => (R.stlt b hb).1)
    · intro r k c hc
      rw [root_new] at hc
      by_cases er : r = σ.boxes.length
      · rw [if_pos er] at hc
        subst er
        rw [List.getElem?_map] at hc
        cases hx : hs[k]? with
        | none => rw [hx] at hc; simp at hc
        | some x =>
          rw [hx] at hc
          simp only [Option.map_some, Option.some.injEq] at hc
          subst hc
          have hh := R.hands (hand.length + k) x (by rw [List.getElem?_append_right (by omega)]; simpa using hx)
          refine ⟨x.1, ?_, (hrep (Nat.le_refl _) (fun b hb => R.lt b _ hb) hh).mono fun b hb => how2 b k hb⟩
          simp only [cellV, if_true]
          rw [cell_of_row _ w.heap.size _ _ e (0, 0) hnew]
          simp [hx]
      · rw [if_neg er] at hc
        obtain ⟨u, hu, hr⟩ := R.cells r k c hc
        exact ⟨u, hgr.cellV (hγ r (root_lt hc)) hu, (hrep (Nat.le_refl _) (fun b hb => R.lt b _ hb) hr).mono fun b hb => how3 b _ hb (by simp)⟩
    · intro r b g o hb hg
      by_cases er : r = σ.boxes.length
      · simp only [er, if_true, Bx.mem.injEq] at hg
        obtain ⟨rfl, rfl⟩ := hg
        simp only [St.new] at hb
        subst er
        have hbb : b = ⟨false, hs.map (·.2)⟩ := by simpa using hb.symm
        subst hbb
        refine ⟨rfl, how1, fun k hk => ⟨frozen_of_row _ _ _ _ e hnew, fun hlt => ?_⟩⟩
        have := R.chg.size
        omega
      · simp only [if_neg er] at hg
        have hb' : σ.boxes[r]? = some b := by
          simp only [St.new] at hb
          rcases getElem?_snoc hb with ⟨_, h⟩ | ⟨h, _⟩
          · exact h
          · exact absurd h er
        obtain ⟨h1, h2, h3⟩ := R.mem r b g o hb' hg
        refine ⟨h1, how3 g _ h2 (by simp), fun k hk => ⟨?_, (h3 k hk).2⟩⟩
        rw [World.frozen?_of_block (w := w) (hgr g (R.lt g _ h2))]
        exact (h3 k hk).1
    · intro r b hb hf
      simp only [St.new] at hb
      rcases getElem?_snoc hb with ⟨hlt, h⟩ | ⟨_, h⟩
      · obtain ⟨vs, hv⟩ := R.free r b h hf
        exact ⟨vs, by simp only [show r ≠ σ.boxes.length by omega, if_false]; exact hv⟩
      · subst h; simp at hf
    · intro i y hy
      have hi : i < hand.length := (List.getElem?_eq_some_iff.1 hy).1
      exact (hrep (Nat.le_refl _) (fun b hb => R.lt b _ hb) (R.hands i y (by rw [List.getElem?_append_left hi]; exact hy))).mono fun b hb => how3 b _ hb (by intro j; simp; omega)
    · intro b y hy
      simp only [World.alloc, Array.size_push]
      rcases how5 b y hy with ⟨rfl, _⟩ | ⟨y', h, _⟩
      · omega
      · have := R.lt b _ h; omega
    · intro b hb
      have := R.stlt b hb
      exact ⟨by simp only [World.alloc, Array.size_push]; omega, how4 b (by omega) this.2⟩
    · exact R.chg.alloc _
    · intro b y hy hb hne
      rcases how5 b y hy with ⟨rfl, h⟩ | ⟨y', h, h'⟩
      · exact absurd h (hne _)
      · refine R.mine b _ h hb ?_
        rcases h' with h' | h'
        · exact h'
        · rw [h']; exact hne
    · intro r x hx
      obtain ⟨h1, h2⟩ := R.pin r x hx
      exact ⟨by rw [hl]; omega, (hγ r h1).trans h2⟩
  · exact .rep _ _ (Rep.box (σ.new false (hs.map (·.2))).boxes.length σ.boxes.length 0 w.heap.size 0 _ (by rw [hl]; omega) (by simp))
end
end
end Go.Proofs.Gh
