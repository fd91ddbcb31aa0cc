/- Values that come home out of the hand. -/
import Derived.Test.YtmpnmcnjhpekaaaGh21
set_option linter.unusedSimpArgs false
namespace Go.Proofs.Gh
open Go.RowKit
section
variable {B : Base} {γ : Nat → Bx} {st : Nat → Prop} {ow : Nat → Option Ow} {hand : List (Value × C)} {σ : St} {w : World} {r : Res} {tmps : Array Value}

/-- Of some cells, what is in the hand. -/
def owns : List Value → List C → List (Value × C)
  | u :: us, c :: cs => if c.asOwnB then (u, c) :: owns us cs else owns us cs
  | _, _ => []
theorem own_sl {c : C} (h : c.asOwnB = true) : (∃ nl sz es, c = .sl true nl sz es) ∨ ∃ kvs, c = .mp kvs := by
  unfold C.asOwnB at h
  split at h
  · exact .inl ⟨_, _, _, rfl⟩
  · exact .inr ⟨_, rfl⟩
  · cases h
def C.asSlB : C → Bool
  | .sl true _ _ _ => true
  | _ => false
theorem own_slB {c : C} (h : c.asSlB = true) : ∃ nl sz es, c = .sl true nl sz es := by
  unfold C.asSlB at h
  split at h
  · exact ⟨_, _, _, rfl⟩
  · cases h
theorem own_home {c : C} (h : c.asOwnB = true) : (∀ x, c ≠ .v x) ∧ ∀ (σ : St) (k : C → St → Option Res), σ.homeC c k = k (.al ⟨σ.boxes.length, 0, []⟩) (σ.new true [c]) := by
  rcases own_sl h with ⟨_, _, _, rfl⟩ | ⟨_, rfl⟩ <;> exact ⟨by simp, fun _ _ => rfl⟩
theorem not_own_home {c : C} (h : c.asOwnB = false) (σ : St) (k : C → St → Option Res) : σ.homeC c k = k c σ := by
  unfold St.homeC
  split
  · simp [C.asOwnB] at h
  · simp [C.asOwnB] at h
  · rfl
theorem Rel.homesH : ∀ (cs : List C) (us : List Value) {γ : Nat → Bx} {ow : Nat → Option Ow} {σ : St} {hand : List (Value × C)} {k : List C → St → Option Res}, Rel B γ st ow (hand ++ owns us cs) σ tmps w → us.length = cs.length →
    (∀ (i : Nat) (u : Value) (c : C), us[i]? = some u → cs[i]? = some c → c.asOwnB = false → CellOk σ st γ w u c) → Gh.homesC σ cs k = some r →
    ∃ cs' σ' γ' ow', k cs' σ' = some r ∧ Rel B γ' st ow' hand σ' tmps w ∧ us.length = cs'.length ∧ (∀ (i : Nat) (u : Value) (c : C), us[i]? = some u → cs'[i]? = some c → CellOk σ' st γ' w u c) ∧ (∀ u s, SlotOk σ st γ w u s → SlotOk σ' st γ' w u s) ∧ σ'.slots = σ.slots
  | [], us, γ, ow, σ, hand, k, R, hl, hc, h => by
    have : us = [] := List.eq_nil_of_length_eq_zero hl
    subst this
    exact ⟨[], σ, γ, ow, h, by simpa [owns] using R, rfl, by simp, fun _ _ h => h, rfl⟩
  | c :: cs, us, γ, ow, σ, hand, k, R, hl, hc, h => by
    cases us with
    | nil => simp at hl
    | cons u us =>
      unfold Gh.homesC at h
      by_cases ho : c.asOwnB = true
      · simp only [owns, ho, if_true] at R
        rw [(own_home ho).2] at h
        have R : Rel B γ st ow (hand ++ [(u, c)] ++ owns us cs) σ tmps w := by simpa using R
        obtain ⟨ow1, R1⟩ := R.rot
        obtain ⟨γ2, ow2, R2, hc2, hs2⟩ := R1.newFree (own_home ho).1
        obtain ⟨cs', σ3, γ3, ow3, h3, R3, hl3, hc3, hs3, hsl3⟩ := Rel.homesH cs us R2 (by simpa using hl) (fun i u c hu hcs ho => cellOf_slot hs2 (hc (i + 1) u c (by simpa using hu) (by simpa using hcs) ho)) h
        refine ⟨_ :: cs', σ3, γ3, ow3, h3, R3, by simpa using hl3, fun i u c hu hcs => ?_, fun u s h => hs3 u s (hs2 u s h), hsl3.trans rfl⟩
        cases i with
        | zero => simp only [List.getElem?_cons_zero, Option.some.injEq] at hu hcs; subst hu hcs; exact cellOf_slot hs3 hc2
        | succ i => exact hc3 i u c (by simpa using hu) (by simpa using hcs)
      · have ho' : c.asOwnB = false := by simpa using ho
        simp only [owns, ho', Bool.false_eq_true, if_false] at R
        have hh : σ.homeC c (fun c' σ' => Gh.homesC σ' cs fun cs' σ'' => k (c' :: cs') σ'') = Gh.homesC σ cs fun cs' σ'' => k (c :: cs') σ'' := by
          exact not_own_home ho' _ _
        rw [hh] at h
        obtain ⟨cs', σ3, γ3, ow3, h3, R3, hl3, hc3, hs3, hsl3⟩ := Rel.homesH cs us R (by simpa using hl) (fun i u c hu hcs ho => hc (i + 1) u c (by simpa using hu) (by simpa using hcs) ho) h
        refine ⟨_ :: cs', σ3, γ3, ow3, h3, R3, by simpa using hl3, fun i u c hu hcs => ?_, hs3, hsl3⟩
        cases i with
        | zero => simp only [List.getElem?_cons_zero, Option.some.injEq] at hu hcs; subst hu hcs; exact cellOf_slot hs3 (hc 0 u c rfl rfl ho')
        | succ i => exact hc3 i u c (by simpa using hu) (by simpa using hcs)
/-- A value's cells, as a slot's content tells them. -/
inductive ValIs : Value → List Value → S → List C → Prop
  | one (u c) : ValIs u [u] (.one c) [c]
  | agg (us : List Value) (cs : List C) : us.length = cs.length → ValIs (.agg us.toArray) us (.agg cs) cs
theorem Rel.homeH {u : Value} {us : List Value} {s : S} {cs : List C} (hv : ValIs u us s cs) {k : S → St → Option Res} (R : Rel B γ st ow (hand ++ owns us cs) σ tmps w)
    (hc : ∀ (i : Nat) (u : Value) (c : C), us[i]? = some u → cs[i]? = some c → c.asOwnB = false → CellOk σ st γ w u c) (h : σ.homeS s k = some r) :
    ∃ s' σ' γ' ow', k s' σ' = some r ∧ Rel B γ' st ow' hand σ' tmps w ∧ SlotOk σ' st γ' w u s' ∧ (∀ u s, SlotOk σ st γ w u s → SlotOk σ' st γ' w u s) ∧ σ'.slots = σ.slots := by
  cases hv with
  | one _ c =>
    simp only [St.homeS] at h
    have h' : Gh.homesC σ [c] (fun cs σ => match cs with | [c] => k (.one c) σ | _ => none) = some r := by simpa [Gh.homesC] using h
    obtain ⟨cs', σ', γ', ow', h1, R1, hl1, hc1, hs1, hsl⟩ := Rel.homesH [c] [u] R rfl hc h'
    match cs', hl1, h1, hc1 with
    | [c'], _, h1, hc1 => exact ⟨_, σ', γ', ow', h1, R1, .one _ _ (hc1 0 u c' rfl rfl), hs1, hsl⟩
  | agg _ _ hl =>
    simp only [St.homeS] at h
    obtain ⟨cs', σ', γ', ow', h1, R1, hl1, hc1, hs1, hsl⟩ := Rel.homesH cs us R hl hc h
    exact ⟨_, σ', γ', ow', h1, R1, .agg us _ hl1 hc1, hs1, hsl⟩

/-! ### A loop's head -/
theorem Rep.keepC {n m N : Nat} {γ' : Nat → Bx} {u : Value} {c : C} {X : Nat → Prop} (h : Rep st γ w N u c X) (hnm : n ≤ m) (hγ : ∀ r, r < n → γ' r = γ r) : Rep st γ' w m u (c.keep n) X := by
  cases h with
  | unk _ _ _ h1 => exact .unk _ _ _ h1
  | v _ _ _ h1 => exact .v _ _ _ h1
  | nil _ o nl sz _ h1 => exact .nil _ _ _ _ _ h1
  | ro _ a cap sz nl es us _ h1 h2 h3 h4 h5 h6 h7 => exact .ro _ _ _ _ _ _ us _ h1 h2 h3 h4 h5 h6 (fun i row j c hi hj => (h7 i row j c hi hj).frame (fun _ h => h) (Nat.le_refl _) (fun _ h => absurd h (Nat.not_lt_zero _)) (fun _ _ => rfl))
  | own _ g o cap sz nl es us Xs e cur _ h1 h2 h3 h4 h5 h6 h7 h8 h9 h10 h11 h12 =>
    exact .own _ _ _ _ _ _ _ us Xs e cur _ h1 h2 h3 h4 h5 h6 h7 h8 (fun i row j c hi hj => (h9 i row j c hi hj).frame (fun _ h => h) (Nat.le_refl _) (fun _ h => absurd h (Nat.not_lt_zero _)) (fun _ _ => rfl)) h10 h11 h12
  | fn _ f caps us _ h1 h2 =>
    simp only [C.keep]
    split
    · rename_i hall
      refine .fn _ _ _ _ _ h1 (fun i c u hc hu => ?_)
      have hr := h2 i c u hc hu
      have hcc := List.all_eq_true.1 hall c (List.mem_of_getElem? hc)
      cases hr with
      | v _ _ _ h1 => exact .v _ _ _ h1
      | nil _ o nl sz _ h1 => exact .nil _ _ _ _ _ h1
      | ro _ a cap sz nl es us _ h1 h2 h3 h4 h5 h6 h7 => exact .ro _ _ _ _ _ _ us _ h1 h2 h3 h4 h5 h6 (fun i row j c hi hj => (h7 i row j c hi hj).frame (fun _ h => h) (Nat.le_refl _) (fun _ h => absurd h (Nat.not_lt_zero _)) (fun _ _ => rfl))
      | own _ g o cap sz nl es us Xs e cur _ h1 h2 => exact h2.elim
      | box _ r k g o _ h1 h2 =>
        have hlt : r < n := by simpa using hcc
        exact .box _ _ _ _ _ _ (by omega) ((hγ r hlt).trans h2)
      | rp _ ad cs us _ h1 h2 h3 => exact .rp _ ad cs us _ h1 h2 (fun j c hj => (h3 j c hj).frame (fun _ h => h) (Nat.le_refl _) (fun _ h => absurd h (Nat.not_lt_zero _)) (fun _ _ => rfl))
      | _ => simp at hcc
    · exact .unk _ _ _ rfl
  | ifcNil => exact .ifcNil _ _
  | ifc _ t u => exact .ifc _ _ _ _
  | rp _ ad cs us _ h1 h2 h3 => exact .rp _ ad cs us _ h1 h2 (fun j c hj => (h3 j c hj).frame (fun _ h => h) (Nat.le_refl _) (fun _ h => absurd h (Nat.not_lt_zero _)) (fun _ _ => rfl))
  | box _ r k g o _ h1 h2 =>
    simp only [C.keep]
    split
    · rename_i hlt; exact .box _ _ _ _ _ _ (by omega) ((hγ r hlt).trans h2)
    · exact .unk _ _ _ rfl
  | mp _ g kvs ms clk _ h1 h2 h3 h4 => exact .mp _ g kvs ms clk _ h1 h2 h3 h4
/-- What a loop's head leaves as it was: boxes that are not free. -/
structure Same (σ σ' : St) : Prop where
  len : σ'.boxes.length = σ.boxes.length
  slots : σ'.slots.length = σ.slots.length
  real : ∀ (r : Nat) (b : Box), σ.boxes[r]? = some b → b.free = false → σ'.boxes[r]? = some b
  free : ∀ (r : Nat) (b : Box), σ.boxes[r]? = some b → b.free = true → ∃ b', σ'.boxes[r]? = some b' ∧ b'.free = true ∧ b'.cs.length = b.cs.length
theorem Same.refl (σ : St) : Same σ σ := ⟨rfl, rfl, fun _ _ h _ => h, fun _ b h hf => ⟨b, h, hf, rfl⟩⟩
theorem Same.trans {σ σ' σ'' : St} (h : Same σ σ') (h' : Same σ' σ'') : Same σ σ'' :=
  ⟨h'.len.trans h.len, h'.slots.trans h.slots, fun r b hb hf => h'.real r b (h.real r b hb hf) hf, fun r b hb hf => let ⟨b', hb', hf', hl⟩ := h.free r b hb hf; let ⟨b2, h1, h2, h3⟩ := h'.free r b' hb' hf'; ⟨b2, h1, h2, h3.trans hl⟩⟩
theorem root_trunc {n : Nat} {r k : Nat} {b : Box} (hb : σ.boxes[r]? = some b) (hr : r < n) : (σ.trunc n).root r k = (b.cs[k]?).map fun c => if b.free then .unk else c.keep n := by
  unfold St.root St.trunc
  simp only [List.getElem?_map, List.getElem?_take, hr, if_true, hb, Option.map_some, Option.bind_some]
theorem walkK_own {steps : List Step} {c d : C} (h : walkC steps c = some d) (hs : steps ≠ []) : ∃ nl sz es, c = .sl true nl sz es := by
  cases steps with
  | nil => exact absurd rfl hs
  | cons s rest =>
    simp only [walkC] at h
    cases c with
    | sl o nl sz es =>
      cases o with
      | true => exact ⟨nl, sz, es, rfl⟩
      | false => simp [C.asOwn] at h
    | _ => simp [C.asOwn] at h
theorem keep_notV {n : Nat} {c : C} (h : ∀ x, c ≠ .v x) : ∀ x, c.keep n ≠ .v x := by
  intro x
  cases c <;> simp only [C.keep] <;> (try split) <;> simp_all
theorem nodeC_trunc {n : Nat} {p : Place} {b : Box} {d : C} (hb : σ.boxes[p.r]? = some b) (hf : b.free = false) (hr : p.r < n) (hd : σ.nodeC p = some d) : (σ.trunc n).nodeC p = some d ∨ (p.steps = [] ∧ (σ.trunc n).nodeC p = some (d.keep n)) := by
  unfold St.nodeC at hd ⊢
  rw [root_trunc hb hr]
  have : σ.root p.r p.k = b.cs[p.k]? := by unfold St.root; rw [hb]; rfl
  rw [this] at hd
  cases hc : b.cs[p.k]? with
  | none => rw [hc] at hd; simp at hd
  | some c =>
    rw [hc] at hd
    simp only [Option.bind_some, Option.map_some, hf, Bool.false_eq_true, if_false] at hd ⊢
    by_cases hs : p.steps = []
    · rw [hs] at hd ⊢
      simp only [walkC, Option.some.injEq] at hd ⊢
      exact .inr ⟨trivial, by rw [hd]⟩
    · obtain ⟨nl, sz, es, rfl⟩ := walkK_own hd hs
      exact .inl hd
end
end Go.Proofs.Gh
