/- Words of this session's own: the first index at which a predicate holds; what is told of a function value. -/
import Derived.Below
import Derived.WalkKit
import Derived.Deep.Draws
namespace Go.Proofs.YtimlccgpeoaigaaV
open Go.RowKit
/-- The first place where p holds, -1 where there is none: what slices.IndexFunc answers. -/
def idx {α : Type} (p : α → Bool) (l : List α) : Int := if l.any p = true then (l.findIdx p : Int) else -1
theorem idx_miss {α : Type} (p : α → Bool) (l : List α) (z : α) (h : ∀ j, j < l.length → p (l.getD j z) = false) : idx p l = -1 := by
  unfold idx
  rw [if_neg]
  intro ha
  obtain ⟨x, hx, hp⟩ := List.any_eq_true.1 ha
  obtain ⟨j, hj, rfl⟩ := List.getElem_of_mem hx
  have := h j hj
  rw [List.getD_eq_getElem?_getD, List.getElem?_eq_getElem hj] at this
  simp [hp] at this
theorem idx_hit {α : Type} (p : α → Bool) (l : List α) (z : α) (k : Nat) (hk : k < l.length) (hp : p (l.getD k z) = true) (h : ∀ j, j < k → p (l.getD j z) = false) : idx p l = k := by
  have hpk : p l[k] = true := by
    rw [List.getD_eq_getElem?_getD, List.getElem?_eq_getElem hk] at hp
    exact hp
  unfold idx
  rw [if_pos (List.any_eq_true.2 ⟨l[k], List.getElem_mem hk, hpk⟩)]
  congr 1
  rw [List.findIdx_eq hk]
  refine ⟨hpk, fun j hj => ?_⟩
  have := h j hj
  rw [List.getD_eq_getElem?_getD, List.getElem?_eq_getElem (by omega)] at this
  simpa using this
theorem idx_ge {α : Type} (p : α → Bool) (l : List α) : decide (0 ≤ idx p l) = l.any p := by
  unfold idx
  by_cases h : l.any p = true
  · rw [if_pos h, h]
    exact decide_eq_true (by omega)
  · rw [if_neg h]
    rw [Bool.eq_false_iff.mpr h]
    exact decide_eq_false (by omega)
theorem idx_lo {α : Type} (p : α → Bool) (l : List α) : -1 ≤ idx p l := by unfold idx; split <;> omega
theorem idx_hi {α : Type} (p : α → Bool) (l : List α) : idx p l < l.length ∨ idx p l = -1 := by
  unfold idx
  by_cases h : l.any p = true
  · rw [if_pos h]
    left
    have := List.findIdx_lt_length.2 (List.any_eq_true.1 h)
    omega
  · rw [if_neg h]; exact .inr rfl
/-- Down by a negation: what 'ContainsFunc(l, not ok)' tells. -/
theorem any_not {α : Type} (p : α → Bool) (l : List α) : (l.any fun x => !p x) = !(l.all p) := by
  induction l with
  | nil => rfl
  | cons a l ih => simp [List.any_cons, List.all_cons, ih, Bool.not_and]
theorem exists_list {α : Type} (n : Nat) (Q : Nat → α → Prop) (h : ∀ i, i < n → ∃ x, Q i x) : ∃ l : List α, l.length = n ∧ ∀ i x, l[i]? = some x → Q i x := by
  induction n with
  | zero => exact ⟨[], rfl, fun i x hx => by simp at hx⟩
  | succ n ih =>
    obtain ⟨l, hl, hq⟩ := ih (fun i hi => h i (by omega))
    obtain ⟨y, hy⟩ := h n (by omega)
    refine ⟨l ++ [y], by simp [hl], fun i x hx => ?_⟩
    rcases Nat.lt_or_ge i l.length with hi | hi
    · rw [List.getElem?_append_left hi] at hx
      exact hq i x hx
    · have he : i = l.length := by
        have := (List.getElem?_eq_some_iff.1 hx).1
        simp at this
        omega
      subst he
      simp at hx
      subst hx
      rw [hl]
      exact hy
/-- The world under a letter of its own, with what is known of it. -/
theorem gen_then {K : Act → World → Prop} {Q : Exit → Act → World → Prop} {ex : Exit} {a : Act} {W : World} (p : World → Prop) (hp : p W) (h : ∀ W', p W' → Exit.then K Q ex a W') : Exit.then K Q ex a W := h W hp
theorem gen_wp {P : Program} {c : Code} {Q : Exit → Act → World → Prop} {a : Act} {W : World} (p : World → Prop) (hp : p W) (h : ∀ W', p W' → c.wp P Q a W') : c.wp P Q a W := h W hp
theorem below_link {w W W' : World} (h : Below w.heap.size w W) (k : Below W.heap.size W W') : Below w.heap.size w W' :=
  h.trans ⟨k.os, k.tape, k.output, k.size, fun i hi => k.block i (Nat.lt_of_lt_of_le hi h.size)⟩
/-! ### Blocks of the call's own: what each holds, one list for all of them -/
/-- Since w only new blocks have come or turned, and those of gs hold what gs says. -/
structure Fr (w W : World) (gs : List (Nat × TypeId × Array Value)) : Prop where
  below : Below w.heap.size w W
  ne : (gs.map (·.1)).Nodup
  at_ : ∀ x ∈ gs, w.heap.size ≤ x.1 ∧ W.heap[x.1]? = some (.cells x.2.2 x.2.1 (0, 0))
theorem Fr.start (w : World) : Fr w w [] := ⟨Below.refl _ _, List.nodup_nil, fun x h => by cases h⟩
theorem blk_lt' {W : World} {g : Nat} {o : Obj} (h : W.heap[g]? = some o) : g < W.heap.size := (Array.getElem?_eq_some_iff.1 h).1
section
variable {w W W1 : World} {gs : List (Nat × TypeId × Array Value)}
theorem Fr.lt (h : Fr w W gs) {x : Nat × TypeId × Array Value} (hx : x ∈ gs) : x.1 < W.heap.size := blk_lt' (h.at_ x hx).2
theorem Fr.call (h : Fr w W gs) (hb : Below W.heap.size W W1) : Fr w W1 gs :=
  ⟨below_link h.below hb, h.ne, fun x hx => ⟨(h.at_ x hx).1, (hb.block x.1 (h.lt hx)).trans (h.at_ x hx).2⟩⟩
theorem Fr.alloc (h : Fr w W gs) {g : Nat} {t : TypeId} {cs : Array Value} (hg : g = W.heap.size) (hk : W1.heap[g]? = some (.cells cs t (0, 0))) (hb : Below W.heap.size W W1) : Fr w W1 ((g, t, cs) :: gs) := by
  have h1 := h.call hb
  refine ⟨h1.below, ?_, fun x hx => ?_⟩
  · rw [List.map_cons, List.nodup_cons]
    refine ⟨fun hm => ?_, h.ne⟩
    obtain ⟨x, hx, he⟩ := List.mem_map.1 hm
    have := h.lt hx
    simp only at he
    omega
  · rcases List.mem_cons.1 hx with rfl | hx
    · exact ⟨by rw [hg]; exact h.below.size, hk⟩
    · exact h1.at_ x hx
theorem Fr.drew (h : Fr w W gs) : Fr w W.drew gs := ⟨⟨h.below.os, h.below.tape, h.below.output, h.below.size, h.below.block⟩, h.ne, h.at_⟩
theorem Fr.drewN (h : Fr w W gs) (n : Nat) : Fr w (W.drewN n) gs := ⟨⟨h.below.os, h.below.tape, h.below.output, h.below.size, h.below.block⟩, h.ne, h.at_⟩
theorem nodup_at {gs : List (Nat × TypeId × Array Value)} (h : (gs.map (·.1)).Nodup) {i j : Nat} {x y : Nat × TypeId × Array Value} (hi : gs[i]? = some x) (hj : gs[j]? = some y) (he : x.1 = y.1) : i = j := by
  have hil := (List.getElem?_eq_some_iff.1 hi).1
  have hjl := (List.getElem?_eq_some_iff.1 hj).1
  have h1 : (gs.map (·.1))[i]'(by simpa using hil) = (gs.map (·.1))[j]'(by simpa using hjl) := by
    simp only [List.getElem_map]
    rw [(List.getElem?_eq_some_iff.1 hi).2, (List.getElem?_eq_some_iff.1 hj).2]
    exact he
  exact (List.getElem_inj h).1 h1
theorem Fr.store (h : Fr w W gs) (i : Nat) {g : Nat} {t : TypeId} {cs : Array Value} (hi : gs[i]? = some (g, t, cs)) (j : Nat) (u : Value) (cs' : Array Value) (hc : cs.setIfInBounds j u = cs') : Fr w (W.setCell ⟨g, j, none⟩ u) (gs.set i (g, t, cs')) := by
  have hm : (g, t, cs) ∈ gs := List.mem_of_getElem? hi
  have hg := h.at_ _ hm
  refine ⟨h.below.setCell hg.1 _, ?_, fun x hx => ?_⟩
  · have : (gs.set i (g, t, cs')).map (·.1) = gs.map (·.1) := by
      apply List.ext_getElem?
      intro k
      rw [List.getElem?_map, List.getElem?_map, List.getElem?_set]
      split
      · rename_i hk
        subst hk
        split
        · rw [hi]; simp
        · rename_i hge
          rw [List.getElem?_eq_none (by omega)]
      · rfl
    rw [this]
    exact h.ne
  · obtain ⟨k, hk⟩ := List.mem_iff_getElem?.1 hx
    rw [List.getElem?_set] at hk
    split at hk
    · rename_i e
      split at hk
      · cases hk
        refine ⟨hg.1, ?_⟩
        have h2 : (W.setCell ⟨g, j, none⟩ u).heap[g]? = some (.cells (cs.setIfInBounds j u) t (0, 0)) := by
          simp [World.setCell, Array.getElem?_modify, hg.2]
        rw [h2, hc]
      · cases hk
    · rename_i e
      have hx' := h.at_ x (List.mem_of_getElem? hk)
      have hne : x.1 ≠ g := fun he => e (nodup_at h.ne hi hk he.symm)
      exact ⟨hx'.1, (Below.heap_setCell W ⟨g, j, none⟩ u x.1 hne).trans hx'.2⟩
theorem Fr.ge (h : Fr w W gs) (i : Nat) {x : Nat × TypeId × Array Value} (hi : gs[i]? = some x) : w.heap.size ≤ x.1 := (h.at_ x (List.mem_of_getElem? hi)).1
theorem Fr.blk (h : Fr w W gs) (i : Nat) {g : Nat} {t : TypeId} {cs : Array Value} (hi : gs[i]? = some (g, t, cs)) : W.heap[g]? = some (.cells cs t (0, 0)) := (h.at_ _ (List.mem_of_getElem? hi)).2
theorem Fr.cell (h : Fr w W gs) (i j : Nat) {g : Nat} {t : TypeId} {cs : Array Value} {u : Value} (hi : gs[i]? = some (g, t, cs)) (hu : cs[j]? = some u) : W.cell? ⟨g, j, none⟩ = some u := (cell_of_row W g j cs t (0, 0) (h.blk i hi)).trans hu
theorem Fr.free (h : Fr w W gs) (i j : Nat) {g : Nat} {t : TypeId} {cs : Array Value} (hi : gs[i]? = some (g, t, cs)) : W.frozen? ⟨g, j, none⟩ = false := by simp [World.frozen?, h.blk i hi]
theorem Fr.old (h : Fr w W gs) {a : Addr} {v : Value} (hc : w.cell? a = some v) : W.cell? a = some v := (h.below.cell (World.block_lt_of_cell? w a hc)).trans hc
theorem Fr.ne_old (h : Fr w W gs) (i : Nat) {x : Nat × TypeId × Array Value} (hi : gs[i]? = some x) {a : Addr} {v : Value} (hc : w.cell? a = some v) : a.block ≠ x.1 := by
  have := World.block_lt_of_cell? w a hc
  have := h.ge i hi
  omega
theorem Fr.apart (h : Fr w W gs) {i j : Nat} {x y : Nat × TypeId × Array Value} (hi : gs[i]? = some x) (hj : gs[j]? = some y) (hn : i ≠ j) : x.1 ≠ y.1 := fun he => hn (nodup_at h.ne hi hj he)
end
end Go.Proofs.YtimlccgpeoaigaaV
