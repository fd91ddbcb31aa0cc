/- Words of this session's own: the first index at which a predicate holds; what is told of a function value. -/
import Derived.Below
import Derived.WalkKit
namespace Go.Proofs.YtbapnhdmhbkbpaaV
open Go.RowKit
/-- The first place where p holds, -1 where there is none: what slices.IndexFunc answers. -/
def idx {α : Type} (p : α → Bool) (l : List α) : Int := if l.any p = true then (l.findIdx p : Int) else -1
theorem idx_miss {α : Type} (p : α → Bool) (l : List α) (z : α) (h : ∀ j, j < l.length → p (l.getD j z) = false) : idx p l = -1 := by
  unfold idx
  rw [if_neg]
  intro ha
  obtain ⟨x, hx, hp⟩ := List.any_eq_true.1 ha
  obtain ⟨j, hj, rfl⟩ := List.getElem_of_mem hx
  have := h j hj
  rw [List.getD_eq_getElem?_getD, List.getElem?_eq_getElem hj] at this
  simp [hp] at this
theorem idx_hit {α : Type} (p : α → Bool) (l : List α) (z : α) (k : Nat) (hk : k < l.length) (hp : p (l.getD k z) = true) (h : ∀ j, j < k → p (l.getD j z) = false) : idx p l = k := by
  have hpk : p l[k] = true := by
    rw [List.getD_eq_getElem?_getD, List.getElem?_eq_getElem hk] at hp
    exact hp
  unfold idx
  rw [if_pos (List.any_eq_true.2 ⟨l[k], List.getElem_mem hk, hpk⟩)]
  congr 1
  rw [List.findIdx_eq hk]
  refine ⟨hpk, fun j hj => ?_⟩
  have := h j hj
  rw [List.getD_eq_getElem?_getD, List.getElem?_eq_getElem (by omega)] at this
  simpa using this
theorem idx_ge {α : Type} (p : α → Bool) (l : List α) : decide (0 ≤ idx p l) = l.any p := by
  unfold idx
  by_cases h : l.any p = true
  · rw [if_pos h, h]
    exact decide_eq_true (by omega)
  · rw [if_neg h]
    rw [Bool.eq_false_iff.mpr h]
    exact decide_eq_false (by omega)
theorem idx_lo {α : Type} (p : α → Bool) (l : List α) : -1 ≤ idx p l := by unfold idx; split <;> omega
theorem idx_hi {α : Type} (p : α → Bool) (l : List α) : idx p l < l.length ∨ idx p l = -1 := by
  unfold idx
  by_cases h : l.any p = true
  · rw [if_pos h]
    left
    have := List.findIdx_lt_length.2 (List.any_eq_true.1 h)
    omega
  · rw [if_neg h]; exact .inr rfl
/-- Down by a negation: what 'ContainsFunc(l, not ok)' tells. -/
theorem any_not {α : Type} (p : α → Bool) (l : List α) : (l.any fun x => !p x) = !(l.all p) := by
  induction l with
  | nil => rfl
  | cons a l ih => simp [List.any_cons, List.all_cons, ih, Bool.not_and]
theorem exists_list {α : Type} (n : Nat) (Q : Nat → α → Prop) (h : ∀ i, i < n → ∃ x, Q i x) : ∃ l : List α, l.length = n ∧ ∀ i x, l[i]? = some x → Q i x := by
  induction n with
  | zero => exact ⟨[], rfl, fun i x hx => by simp at hx⟩
  | succ n ih =>
    obtain ⟨l, hl, hq⟩ := ih (fun i hi => h i (by omega))
    obtain ⟨y, hy⟩ := h n (by omega)
    refine ⟨l ++ [y], by simp [hl], fun i x hx => ?_⟩
    rcases Nat.lt_or_ge i l.length with hi | hi
    · rw [List.getElem?_append_left hi] at hx
      exact hq i x hx
    · have he : i = l.length := by
        have := (List.getElem?_eq_some_iff.1 hx).1
        simp at this
        omega
      subst he
      simp at hx
      subst hx
      rw [hl]
      exact hy
theorem below_link {w W W' : World} (h : Below w.heap.size w W) (k : Below W.heap.size W W') : Below w.heap.size w W' :=
  h.trans ⟨k.os, k.tape, k.output, k.size, fun i hi => k.block i (Nat.lt_of_lt_of_le hi h.size)⟩
end Go.Proofs.YtbapnhdmhbkbpaaV
