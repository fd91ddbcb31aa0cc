/- What comes back from a call. -/
import Derived.Test.YtmpnmcnjhpekaaaGh31
set_option linter.unusedSimpArgs false
namespace Go.Proofs.Gh
open Go.RowKit
section
variable {P : Program} {E : Env} {B : Base} {γ : Nat → Bx} {st st' : Nat → Prop} {ow : Nat → Option Ow} {hand : List (Value × C)} {σ σ0 : St} {w : World} {r : Res} {tmps : Array Value}

theorem rowsFree_get : ∀ {es : List (List C)} {i : Nat} {row : List C}, rowsFree es = true → es[i]? = some row → rowFree row = true
  | [], i, row, _, h => by simp at h
  | r :: rs, i, row, hf, h => by
    simp only [rowsFree, Bool.and_eq_true] at hf
    cases i with
    | zero => simp at h; subst h; exact hf.1
    | succ i => exact rowsFree_get hf.2 (by simpa using h)
theorem rowFree_get : ∀ {cs : List C} {i : Nat} {c : C}, rowFree cs = true → cs[i]? = some c → c.free = true
  | [], i, c, _, h => by simp at h
  | d :: ds, i, c, hf, h => by
    simp only [rowFree, Bool.and_eq_true] at hf
    cases i with
    | zero => simp at h; subst h; exact hf.1
    | succ i => exact rowFree_get hf.2 (by simpa using h)
/-- What is read only nowhere stands without the blocks that stay. -/
theorem Rep.ofFree {n : Nat} {u : Value} {c : C} {X : Nat → Prop} (h : Rep st γ w n u c X) (hf : c.free = true) : Rep st' γ w n u c X := by
  induction h with
  | unk _ _ _ h1 => exact .unk _ _ _ h1
  | v _ _ _ h1 => exact .v _ _ _ h1
  | nil _ o nl sz _ h1 => exact .nil _ _ _ _ _ h1
  | ro => simp [C.free] at hf
  | own _ g o cap sz nl es us Xs e cur _ h1 h2 h3 h4 h5 h6 h7 h8 h9 h10 h11 h12 ih =>
    have hr : rowsFree es = true := by simpa [C.free] using hf
    exact .own _ _ _ _ _ _ _ us Xs e cur _ h1 h2 h3 h4 h5 h6 h7 h8 (fun i row j c hi hj => ih i row j c hi hj (rowFree_get (rowsFree_get hr hi) hj)) h10 h11 h12
  | fn _ f caps us _ h1 h2 ih =>
    have hr : caps.all C.isV = true := by simpa [C.free] using hf
    refine .fn _ _ _ _ _ h1 (fun i c u hc hu => ?_)
    have hv := List.all_eq_true.1 hr c (List.mem_of_getElem? hc)
    cases h2 i c u hc hu with
    | v _ _ _ h1 => exact .v _ _ _ h1
    | _ => simp [C.isV] at hv
  | ifcNil => exact .ifcNil _ _
  | ifc _ t u => exact .ifc _ _ _ _
  | rp => simp [C.free] at hf
  | box _ r k g o _ h1 h2 => exact .box _ _ _ _ _ _ h1 h2
  | mp => simp [C.free] at hf
theorem Rep.left {keeps : Bool} {lent : List Nat} {n : Nat} {u : Value} {c : C} {X : Nat → Prop} (h : Rep (stays keeps lent st ow) γ w n u c X) (hl : c.leaves keeps = true) : Rep st γ w 0 u c X := by
  simp only [C.leaves, Bool.and_eq_true, Bool.or_eq_true] at hl
  have h0 := h.nest (.inr hl.1)
  rcases hl.2 with hk | hf
  · refine h0.frame (fun b hb => ?_) (Nat.le_refl _) (fun _ _ => rfl) (fun _ _ => rfl)
    rcases hb with hb | ⟨hb, _⟩
    · exact hb
    · rw [hk] at hb; cases hb
  · exact h0.ofFree hf
/-- Flat lists, told by two indexes. -/
theorem flatten_idx {α : Type} : ∀ (L : List (List α)) (i : Nat) (x : α), L.flatten[i]? = some x → ∃ j k row, L[j]? = some row ∧ row[k]? = some x ∧ (L.take j).flatten.length + k = i
  | [], i, x, h => by simp at h
  | row :: L, i, x, h => by
    simp only [List.flatten_cons] at h
    by_cases hi : i < row.length
    · rw [List.getElem?_append_left hi] at h
      exact ⟨0, i, row, rfl, h, by simp⟩
    · rw [List.getElem?_append_right (by omega)] at h
      obtain ⟨j, k, row', h1, h2, h3⟩ := flatten_idx L _ x h
      refine ⟨j + 1, k, row', by simpa using h1, h2, ?_⟩
      rw [List.take_succ_cons, List.flatten_cons, List.length_append]
      omega
/-- What is in the hand of a value's cells: what owns nothing is let go. -/
theorem Rel.shed : ∀ (cs : List C) (us : List Value) {ow : Nat → Option Ow} {hand : List (Value × C)}, Rel B γ st ow (hand ++ us.zip cs) σ tmps w → us.length = cs.length →
    ∃ ow', Rel B γ st ow' (hand ++ owns us cs) σ tmps w ∧ ∀ (i : Nat) (u : Value) (c : C), us[i]? = some u → cs[i]? = some c → c.asOwnB = false → CellOk σ st γ w u c
  | [], us, ow, hand, R, hl => by
    have : us = [] := List.eq_nil_of_length_eq_zero hl
    subst this
    exact ⟨ow, by simpa [owns] using R, by simp⟩
  | c :: cs, us, ow, hand, R, hl => by
    cases us with
    | nil => simp at hl
    | cons u us =>
      have hc := R.hands hand.length (u, c) (by rw [List.getElem?_append_right (by omega)]; simp)
      by_cases ho : c.asOwnB = true
      · have R' : Rel B γ st ow ((hand ++ [(u, c)]) ++ us.zip cs) σ tmps w := by simpa using R
        obtain ⟨ow', R2, h2⟩ := Rel.shed cs us R' (by simpa using hl)
        refine ⟨ow', by simpa [owns, ho] using R2, fun i u' c' hu hc' ho' => ?_⟩
        cases i with
        | zero => simp only [List.getElem?_cons_zero, Option.some.injEq] at hu hc'; subst hu hc'; rw [ho] at ho'; cases ho'
        | succ i => exact h2 i u' c' (by simpa using hu) (by simpa using hc') ho'
      · have ho1 : c.asOwnB = false := by simpa using ho
        have R' : Rel B γ st ow (hand ++ [(u, c)] ++ us.zip cs) σ tmps w := by simpa using R
        obtain ⟨ow1, R1⟩ := R'.rot
        obtain ⟨ow2, R2⟩ := R1.drop
        obtain ⟨ow', R3, h3⟩ := Rel.shed cs us R2 (by simpa using hl)
        refine ⟨ow', by simpa [owns, ho1] using R3, fun i u' c' hu hc' ho' => ?_⟩
        cases i with
        | zero => simp only [List.getElem?_cons_zero, Option.some.injEq] at hu hc'; subst hu hc'; exact .rep _ _ (hc.noown ho1)
        | succ i => exact h3 i u' c' (by simpa using hu) (by simpa using hc') ho'
/-- All that is in the hand behind a beginning is let go. -/
theorem Rel.drops : ∀ (hs : List (Value × C)) {ow : Nat → Option Ow} {hand : List (Value × C)}, Rel B γ st ow (hand ++ hs) σ tmps w → ∃ ow', Rel B γ st ow' hand σ tmps w
  | [], ow, hand, R => ⟨ow, by simpa using R⟩
  | x :: hs, ow, hand, R => by
    obtain ⟨ow1, R1⟩ := Rel.drops hs (hand := hand ++ [x]) (by simpa using R)
    exact R1.drop
end
end Go.Proofs.Gh
