/- A ghost state and the machine's: slices that the call makes: new ones, appended ones. -/
import Derived.Test.YtmpnmcnjhpekaaaGh7
namespace Go.Proofs.Gh
open Go.RowKit
open Classical in
section
theorem flatten_get {sz : Nat} : ∀ (rows : List (List C)), (∀ (i : Nat) (row : List C), rows[i]? = some row → row.length = sz) → ∀ (i j : Nat) (row : List C) (c : C), rows[i]? = some row → row[j]? = some c → rows.flatten[i * sz + j]? = some c
  | [], _, i, _, _, _, h, _ => by simp at h
  | r :: rows, hl, 0, j, row, c, h, hc => by
    simp only [List.getElem?_cons_zero, Option.some.injEq] at h
    subst h
    have hj := (List.getElem?_eq_some_iff.1 hc).1
    simp only [List.flatten_cons, Nat.zero_mul, Nat.zero_add]
    rw [List.getElem?_append_left hj]
    exact hc
  | r :: rows, hl, i + 1, j, row, c, h, hc => by
    have h0 := hl 0 r rfl
    simp only [List.getElem?_cons_succ] at h
    simp only [List.flatten_cons]
    rw [List.getElem?_append_right (by rw [h0, Nat.succ_mul]; omega), h0]
    have := flatten_get rows (fun i row hi => hl (i + 1) row (by simpa using hi)) i j row c h hc
    rw [← this]
    congr 1
    rw [Nat.succ_mul]; omega
theorem flatten_length {sz : Nat} (rows : List (List C)) (h : ∀ (i : Nat) (row : List C), rows[i]? = some row → row.length = sz) : rows.flatten.length = rows.length * sz := by
  induction rows with
  | nil => simp
  | cons r rows ih =>
    have h0 := h 0 r rfl
    simp only [List.flatten_cons, List.length_append, h0, ih (fun i row hi => h (i + 1) row (by simpa using hi)), List.length_cons, Nat.succ_mul]
    omega

section
variable {B : Base} {γ : Nat → Bx} {st : Nat → Prop} {ow : Nat → Option Ow} {hand : List (Value × C)} {σ : St} {tmps : Array Value} {w : World}

/-- GATHER: all that the hand holds behind a beginning becomes one thing; memory that it owned may have changed. -/
theorem Rel.gather {hs : List (Value × C)} (R : Rel B γ st ow (hand ++ hs) σ tmps w) {w' : World} (hos : w'.os = w.os) (htape : w'.tape = w.tape) (hout : w'.output = w.output)
    (hw : ∀ b, b < w.heap.size → (∀ k, ow b ≠ some (.hand (hand.length + k))) → w'.heap[b]? = w.heap[b]?) (hsz : w.heap.size ≤ w'.heap.size) {v' : Value} {c' : C}
    (hrep : Rep st γ w' σ.boxes.length v' c' (fun b => (∃ k, ow b = some (.hand (hand.length + k))) ∨ (w.heap.size ≤ b ∧ b < w'.heap.size))) :
    ∃ ow', Rel B γ st ow' (hand ++ [(v', c')]) σ tmps w' := by
  have how : ∃ ow' : Nat → Option Ow, (∀ b, (∃ k, ow b = some (.hand (hand.length + k))) ∨ (w.heap.size ≤ b ∧ b < w'.heap.size) → ow' b = some (.hand hand.length)) ∧
      (∀ b y, ow b = some y → (∀ k, y ≠ .hand (hand.length + k)) → ow' b = some y) ∧ (∀ b, b < w.heap.size → ow b = none → ow' b = none) ∧
      (∀ b y, ow' b = some y → (w.heap.size ≤ b ∧ b < w'.heap.size) ∨ (∃ y', ow b = some y' ∧ ((∀ r, y' ≠ .box r) ∨ y' = y))) := by
    refine ⟨fun b => if (∃ k, ow b = some (.hand (hand.length + k))) ∨ (w.heap.size ≤ b ∧ b < w'.heap.size) then some (.hand hand.length) else ow b, fun b h => if_pos h, fun b y h hn => ?_, fun b hb h => ?_, fun b y h => ?_⟩
    · have := R.lt b _ h
      dsimp only
      rw [if_neg, h]
      rintro (⟨k, hk⟩ | hb)
      · rw [h] at hk; exact hn k (Option.some.inj hk)
      · omega
    · dsimp only
      rw [if_neg, h]
      rintro (⟨k, hk⟩ | hb')
      · rw [h] at hk; cases hk
      · omega
    · by_cases e : (∃ k, ow b = some (.hand (hand.length + k))) ∨ (w.heap.size ≤ b ∧ b < w'.heap.size)
      · rcases e with ⟨k, hk⟩ | hb
        · exact .inr ⟨_, hk, .inl (by simp)⟩
        · exact .inl hb
      · dsimp only at h
        rw [if_neg e] at h
        exact .inr ⟨y, h, .inr rfl⟩
  obtain ⟨ow', how1, how2, how3, how4⟩ := how
  have hkeep : ∀ b y, ow b = some y → (∀ k, y ≠ .hand (hand.length + k)) → w'.heap[b]? = w.heap[b]? := fun b y h hn => hw b (R.lt b _ h) fun k hk => by rw [h] at hk; exact hn k (Option.some.inj hk)
  have hst : ∀ b, st b → w'.heap[b]? = w.heap[b]? := fun b h => hw b (R.stlt b h).1 fun k hk => by rw [(R.stlt b h).2] at hk; cases hk
  have hcellV : ∀ r k c, σ.root r k = some c → cellV γ w' r k = cellV γ w r k := fun r k c hc => by
    unfold cellV
    cases hb : γ r with
    | val vs => rfl
    | mem g o =>
      obtain ⟨b, hbx, _⟩ := root_box hc
      exact World.cell?_of_block (w := w) (hkeep g _ (R.mem r b g o hbx hb).2.1 (by simp))
  have hplace : ∀ q d, σ.nodeC q = some d → placeV γ w' q = placeV γ w q := fun q d hq => by
    obtain ⟨c, hc, hwc⟩ := nodeC_root hq
    obtain ⟨u, hu, hr⟩ := R.cells _ _ _ hc
    unfold placeV
    rw [hcellV _ _ _ hc, hu]
    simp only [Option.bind_some]
    exact walkV_same q.steps hr hwc (fun b hb => hkeep b _ hb (by simp))
  have hchg : Chg B w' := by
    have hc := R.chg
    have hmy : ∀ b, b < B.w.heap.size → (∃ o, ¬ B.Y b o) → w'.heap[b]? = w.heap[b]? := fun b hb ⟨o, ho⟩ => hw b (by have := hc.size; omega) fun k hk => ho (R.mine b _ hk hb (by simp) o)
    exact ⟨hos.trans hc.os, htape.trans hc.tape, hout.trans hc.output, Nat.le_trans hc.size hsz, fun b hb hy => (hmy b hb ⟨0, hy 0⟩).trans (hc.same b hb hy),
      fun b o hb hy => ⟨(World.cell?_of_block (w := w) (hmy b hb ⟨o, hy⟩)).trans (hc.part b o hb hy).1, (World.frozen?_of_block (w := w) (hmy b hb ⟨o, hy⟩)).trans (hc.part b o hb hy).2⟩⟩
  refine ⟨ow', ?_⟩
  constructor
  · exact R.tab
  · exact R.size
  · intro t s u hs hu
    refine (R.slots t s u hs hu).move fun u c h => ?_
    clear hs hu
    induction h with
    | unk => exact .unk _
    | rep _ _ h => exact .rep _ _ (h.same fun b hb => hb.elim (hst b) (fun h => h.elim))
    | al q _ d hd hv hp => exact .al q _ d hd hv ((hplace q d hd).trans hp)
    | pl q before s d ad hs hd hx ha =>
      refine .pl q before s d ad hs hd hx ?_
      obtain ⟨r, k, steps⟩ := q
      simp only at hs
      subst hs
      rw [placeA_append] at ha ⊢
      rw [hplace ⟨r, k, before⟩ d hd]
      exact ha
    | rp ad cs us h1 h2 h3 =>
      refine .rp ad cs us h1 (fun j c hj => ?_) (fun j c hj => (h3 j c hj).same fun b hb => hb.elim (hst b) (fun h => h.elim))
      have hne : cs ≠ [] := by intro e; subst e; simp at hj
      rw [World.cell?_of_block (w := w) (by rw [add_block]; exact hst _ (h1 hne))]
      exact h2 j c hj
    | wi p sz l h len cap ad h1 h2 h3 ih => exact .wi p sz l h len cap ad ih h2 h3
    | pa r k g o ps us h1 h2 h3 h4 i3 i4 => exact .pa r k g o ps us h1 h2 i3 i4
  · intro r k c hc
    obtain ⟨u, hu, hr⟩ := R.cells r k c hc
    exact ⟨u, (hcellV r k c hc).trans hu, (hr.same fun b hb => hb.elim (hst b) (fun hb => hkeep b _ hb (by simp))).mono fun b hb => how2 b _ hb (by simp)⟩
  · intro r b g o hb hg
    obtain ⟨h1, h2, h3⟩ := R.mem r b g o hb hg
    exact ⟨h1, how2 g _ h2 (by simp), fun k hk => ⟨(World.frozen?_of_block (w := w) (hkeep g _ h2 (by simp))).trans (h3 k hk).1, (h3 k hk).2⟩⟩
  · exact R.free
  · intro i x hx
    rcases getElem?_snoc hx with ⟨hi, hx⟩ | ⟨rfl, rfl⟩
    · have hne : ∀ k, (Ow.hand i) ≠ .hand (hand.length + k) := fun k => by simp; omega
      exact ((R.hands i x (by rw [List.getElem?_append_left hi]; exact hx)).same fun b hb => hb.elim (hst b) (fun hb => hkeep b _ hb hne)).mono fun b hb => how2 b _ hb hne
    · exact hrep.mono how1
  · intro b y hy
    rcases how4 b y hy with h | ⟨y', h, _⟩
    · exact h.2
    · exact Nat.lt_of_lt_of_le (R.lt b _ h) hsz
  · intro b hb
    have := R.stlt b hb
    exact ⟨Nat.lt_of_lt_of_le this.1 hsz, how3 b this.1 this.2⟩
  · exact hchg
  · intro b y hy hb hne
    rcases how4 b y hy with h | ⟨y', h, h'⟩
    · have := R.chg.size; omega
    · refine R.mine b _ h hb ?_
      rcases h' with h' | h'
      · exact h'
      · rw [h']; exact hne
  · exact R.pin

/-- A new slice of the call's own, its elements' cells out of the hand. -/
theorem Rel.newOwn {hs : List (Value × C)} {rows : List (List C)} {sz : Nat} (R : Rel B γ st ow (hand ++ hs) σ tmps w) (hsz : ∀ (i : Nat) (row : List C), rows[i]? = some row → row.length = sz)
    (hfl : hs.map (·.2) = rows.flatten) (hn : ∀ (i : Nat) (x : Value × C), hs[i]? = some x → Rep st γ w 0 x.1 x.2 (fun b => ow b = some (.hand (hand.length + i)))) (cap : Nat) (hcap : rows.length ≤ cap) (hm : cap ≤ maxLen) (cur : Array Value) (hcur : ∀ (i : Nat) (x : Value × C), hs[i]? = some x → cur[i]? = some x.1)
    (hsize : cap * sz ≤ cur.size) (e : TypeId) {w' : World} (hw' : w' = w.alloc (.cells cur e) ∨ w' = w.drew.alloc (.cells cur e)) :
    ∃ ow', Rel B γ st ow' (hand ++ [(.slice (some ⟨w.heap.size, 0, none⟩) rows.length cap, .sl true (some false) sz rows)]) σ tmps w' := by
  have hnew : w'.heap[w.heap.size]? = some (.cells cur e) := by
    rcases hw' with rfl | rfl
    · exact heap_alloc_new w _
    · exact heap_alloc_new w.drew _
  have hold : ∀ b, b < w.heap.size → w'.heap[b]? = w.heap[b]? := fun b hb => by
    rcases hw' with rfl | rfl
    · exact Below.heap_alloc w _ b hb
    · exact Below.heap_alloc w.drew _ b hb
  have hws : w'.heap.size = w.heap.size + 1 := by rcases hw' with rfl | rfl <;> simp
  refine R.gather (w' := w') ?_ ?_ ?_ (fun b hb _ => hold b hb) (by omega) ?_
  · rcases hw' with rfl | rfl <;> rfl
  · rcases hw' with rfl | rfl <;> rfl
  · rcases hw' with rfl | rfl <;> rfl
  have hget : ∀ i row j c, rows[i]? = some row → row[j]? = some c → j < sz ∧ ∃ x, hs[i * sz + j]? = some x ∧ x.2 = c := fun i row j c hi hj => by
    have h1 := flatten_get rows hsz i j row c hi hj
    rw [← hfl, List.getElem?_map] at h1
    refine ⟨by rw [← hsz i row hi]; exact (List.getElem?_eq_some_iff.1 hj).1, ?_⟩
    cases hx : hs[i * sz + j]? with
    | none => rw [hx] at h1; simp at h1
    | some x => rw [hx] at h1; exact ⟨x, rfl, by simpa using h1⟩
  refine Rep.own _ w.heap.size 0 cap sz (some false) rows (fun i j => ((hs[i * sz + j]?).map (·.1)).getD (.int .i64 0)) (fun i j b => j < sz ∧ ow b = some (.hand (hand.length + (i * sz + j)))) e cur _
    (by simp) (.inr ⟨Nat.le_refl _, by omega⟩) hnew (by omega) hcap hm hsz ?_ ?_ ?_ ?_ ?_
  · intro i row j c hi hj
    obtain ⟨_, x, hx, _⟩ := hget i row j c hi hj
    simp only [Nat.zero_add, hx, Option.map_some, Option.getD_some]
    exact hcur _ _ hx
  · intro i row j c hi hj
    obtain ⟨hjl, x, hx, rfl⟩ := hget i row j c hi hj
    simp only [hx, Option.map_some, Option.getD_some]
    refine ((hn _ x hx).same fun b hb => hold b ?_).mono fun b hb => ⟨hjl, hb⟩
    exact hb.elim (fun hb => (R.stlt b hb).1) (fun hb => R.lt b _ hb)
  · intro i j b hb; exact .inl ⟨_, hb.2⟩
  · intro i j hb; exact absurd (R.lt _ _ hb.2) (by omega)
  · intro i j i' j' b hb hb'
    rw [hb.2] at hb'
    have := hb'.2
    simp only [Option.some.injEq, Ow.hand.injEq] at this
    exact cellIndex hb.1 hb'.1 (by omega)
end
end
end Go.Proofs.Gh
