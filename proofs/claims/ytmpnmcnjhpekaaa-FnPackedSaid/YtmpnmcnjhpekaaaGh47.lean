/- Words for what is printed: simp rules, and the law of a loop along a list. -/
import Derived.Test.YtmpnmcnjhpekaaaGh46
set_option linter.unusedSimpArgs false
set_option linter.unusedVariables false
namespace Go.Proofs.Gh
open Go Go.RowKit
attribute [simp] tRo tOwn tRes tOne tParts tTup tOuts S.leaves C.leaves C.nested C.free rowsFree rowFree S.pack lensOk C.slice shapeC plant CK.plain
@[simp] theorem fr_eq (keeps : Bool) (n : Nat) (ss : List S) : fr keeps n ss = if ss.all (S.leaves keeps) = true then some (S.pack ss, List.replicate n (.one .unk)) else none := by simp [fr]
@[simp] theorem fin_eq (keeps : Bool) (args ss os : List S) : fin keeps args ss os = if (ss.all (S.leaves keeps) = true ∧ os.all (S.leaves keeps) = true) ∧ lensOk args os = true then some (S.pack ss, os) else none := by simp [fin, Bool.and_eq_true]
@[simp] theorem rep0 {α : Type} (x : α) : List.replicate 0 x = [] := rfl
@[simp] theorem rep1 {α : Type} (x : α) : List.replicate 1 x = [x] := rfl
@[simp] theorem rep2 {α : Type} (x : α) : List.replicate 2 x = [x, x] := rfl
@[simp] theorem rep3 {α : Type} (x : α) : List.replicate 3 x = [x, x, x] := rfl
@[simp] theorem rep4 {α : Type} (x : α) : List.replicate 4 x = [x, x, x, x] := rfl
@[simp] theorem rep5 {α : Type} (x : α) : List.replicate 5 x = [x, x, x, x, x] := rfl
theorem ix_of {i : Int} {es : List (List C)} {k : Option Res} (h0 : 0 ≤ i) (h : i < (es.length : Int)) : ix i es k = k := if_pos ⟨h0, h⟩
@[simp] theorem ix_nat {i : Nat} {es : List (List C)} {k : Option Res} (h : i < es.length) : ix (i : Int) es k = k := ix_of (by omega) (by omega)
@[simp] theorem ix_map {α : Type} {f : α → List C} {l : List α} {i : Nat} {k : Option Res} (h : i < l.length) : ix (i : Int) (l.map f) k = k := ix_of (by omega) (by simpa using h)
@[simp] theorem all_tt {α : Type} (l : List α) : (l.all fun _ => true) = true := by simp
theorem iterC_succ {h : Sh} (fb : h.K → h.K) (m : Nat) : iterC fb (m + 1) = fb (iterC fb m) := rfl
/-- A loop along a list: at element i with a beside it. -/
theorem iter_rec {h : Sh} {fb : h.K → h.K} {α A : Type} (l : List α) (ev : Nat → A → h.K → Option Res) (g : A → List α → Option Res) (I : Nat → A → Prop) (hl : l.length < 4611686018427387904)
    (h0 : ∀ nx a, I l.length a → ev l.length a (fb nx) = g a [])
    (h1 : ∀ nx i rest a (hi : i < l.length), I i a → W ((i : Int) + 1) = (i : Int) + 1 → l.drop (i + 1) = rest →
      (∃ a', I (i + 1) a' ∧ ev i a (fb nx) = ev (i + 1) a' nx ∧ g a (l[i] :: rest) = g a' rest) ∨ ev i a (fb nx) = g a (l[i] :: rest)) :
    ∀ a, I 0 a → ev 0 a (iterC fb FUEL) = g a l := by
  have key : ∀ (j i : Nat) (a : A), l.length < i + j → i ≤ l.length → I i a → ev i a (iterC fb j) = g a (l.drop i) := by
    intro j
    induction j with
    | zero => intro i a h1 h2; omega
    | succ j ih =>
      intro i a hj hi hI
      rw [iterC_succ]
      by_cases e : i = l.length
      · subst e
        rw [h0 _ _ hI, List.drop_length]
      · have hlt : i < l.length := by omega
        have hd : l.drop i = l[i] :: l.drop (i + 1) := List.drop_eq_getElem_cons hlt
        have hW : W ((i : Int) + 1) = (i : Int) + 1 := W_eq (by omega) (by omega)
        rw [hd]
        rcases h1 (iterC fb j) i _ a hlt hI hW rfl with ⟨a', hI', e1, e2⟩ | e1
        · rw [e1, e2, ih (i + 1) a' (by omega) (by omega) hI']
        · exact e1
  intro a hI
  have := key FUEL 0 a (by rw [FUEL_eq]; omega) (Nat.zero_le _) hI
  simpa using this
/-- The same where nothing is beside it. -/
theorem iter_all {h : Sh} {fb : h.K → h.K} {α : Type} (l : List α) (ev : Nat → h.K → Option Res) (p : α → Bool) (yes no : Option Res) (hl : l.length < 4611686018427387904)
    (h0 : ∀ nx, ev l.length (fb nx) = yes)
    (h1 : ∀ nx i (hi : i < l.length), W ((i : Int) + 1) = (i : Int) + 1 → ev i (fb nx) = bif p l[i] then ev (i + 1) nx else no) :
    ev 0 (iterC fb FUEL) = bif l.all p then yes else no := by
  refine iter_rec (A := Unit) l (fun i _ => ev i) (fun _ r => bif r.all p then yes else no) (fun _ _ => True) hl (fun nx a _ => h0 nx) (fun nx i rest a hi _ hW _ => ?_) () trivial
  have := h1 nx i hi hW
  cases hp : p l[i] with
  | true => rw [hp] at this; exact .inl ⟨(), trivial, this, by simp [hp]⟩
  | false => rw [hp] at this; exact .inr (by rw [this]; simp [hp])
/-- What is built up element by element. -/
theorem iter_fold {h : Sh} {fb : h.K → h.K} {α A : Type} (l : List α) (ev : Nat → A → h.K → Option Res) (f : A → α → A) (done : A → Option Res) (I : Nat → A → Prop) (hl : l.length < 4611686018427387904)
    (h0 : ∀ nx a, I l.length a → ev l.length a (fb nx) = done a)
    (h1 : ∀ nx i a (hi : i < l.length), I i a → W ((i : Int) + 1) = (i : Int) + 1 → I (i + 1) (f a l[i]) ∧ ev i a (fb nx) = ev (i + 1) (f a l[i]) nx) (a : A) (ha : I 0 a) :
    ev 0 a (iterC fb FUEL) = done (l.foldl f a) :=
  iter_rec l ev (fun a r => done (r.foldl f a)) I hl h0 (fun nx i _ a hi hI hW _ => .inl ⟨_, (h1 nx i a hi hI hW).1, (h1 nx i a hi hI hW).2, rfl⟩) a ha
/-- Elements set one after the other: in the end each is what its place tells. -/
theorem iter_set {h : Sh} {fb : h.K → h.K} {α : Type} (l : List α) (mk : Nat → α) (ev : Nat → List α → h.K → Option Res) (done : List α → Option Res) (hl : l.length < 4611686018427387904)
    (h0 : ∀ nx a, a.length = l.length → ev l.length a (fb nx) = done a)
    (h1 : ∀ nx (i : Nat) (a : List α) (hi : i < a.length), a.length = l.length → W ((i : Int) + 1) = (i : Int) + 1 → ev i a (fb nx) = ev (i + 1) (a.set i (mk i)) nx) :
    ev 0 l (iterC fb FUEL) = done ((List.range l.length).map mk) := by
  have key : ∀ (j i : Nat) (a : List α), l.length < i + j → i ≤ l.length → a.length = l.length → ev i a (iterC fb j) = done ((List.range l.length).mapIdx fun k _ => if k < i then a[k]?.getD (mk k) else mk k) := by
    intro j
    induction j with
    | zero => intro i a h1 h2; omega
    | succ j ih =>
      intro i a hj hi ha
      rw [iterC_succ]
      by_cases e : i = l.length
      · subst e
        rw [h0 _ _ ha]
        congr 1
        apply List.ext_getElem
        · simp [ha]
        · intro k h1 h2
          simp [h1, (by omega : k < l.length)]
      · rw [h1 _ i a (by omega) ha (W_eq (by omega) (by omega)), ih (i + 1) _ (by omega) (by omega) (by simpa using ha)]
        congr 1
        apply List.ext_getElem
        · simp
        · intro k h1 h2
          simp only [List.length_mapIdx, List.length_range] at h1
          simp only [List.getElem_mapIdx]
          by_cases e1 : k < i
          · simp [e1, (by omega : k < i + 1), List.getElem?_set_ne (by omega : i ≠ k)]
          · by_cases e2 : k = i
            · subst e2; simp [(by omega : k < a.length)]
            · rw [if_neg e1, if_neg (by omega)]
  have := key FUEL 0 l (by rw [FUEL_eq]; omega) (Nat.zero_le _) rfl
  rw [this]
  congr 1
  apply List.ext_getElem
  · simp
  · intro k h1 h2; simp
@[simp] theorem oc_map {α : Type} {f : α → List C} {l : List α} {ck : CK} {i j : Nat} {k : Option Res} (hi : i < l.length) : oc ck (l.map f) i j k = ((f l[i])[j]?).bind fun c => shapeC ck c fun _ => k := by simp [oc, hi]
theorem md_map {α : Type} {f : α → List C} {l : List α} {i j : Nat} {c : C} {y : α} (hi : i < l.length) (hy : (f l[i]).modify j (plant [] c) = f y) : md (l.map f) i j c = (l.set i y).map f := by
  apply List.ext_getElem?
  intro k
  simp only [md, List.getElem?_modify, List.getElem?_map, List.getElem?_set]
  by_cases e : i = k
  · subst e; simp [hi, ← hy]
  · simp [e]
@[simp] theorem md_md (es : List (List C)) (i j : Nat) (c c' : C) : md (md es i j c) i j c' = md es i j c' := by
  simp only [md, List.modify_modify_eq]
  congr 1
  funext row
  simp only [Function.comp, List.modify_modify_eq]
  congr 1
theorem get_md {es : List (List C)} {i : Nat} (j : Nat) (c : C) (hi : i < es.length) : (md es i j c)[i]? = some (es[i].modify j (plant [] c)) := by
  simp [md, List.getElem?_modify, hi]
@[simp] theorem get_md_map {α : Type} {f : α → List C} {l : List α} {i : Nat} (j : Nat) (c : C) (hi : i < l.length) : (md (l.map f) i j c)[i]? = some ((f l[i]).modify j (plant [] c)) := by
  rw [get_md j c (by simpa using hi)]; simp
@[simp] theorem own3_sl (nl : Option Bool) (sz : Nat) (es : List (List C)) (k : Option Bool → Nat → List (List C) → Option Res) : own3 (.sl true nl sz es) k = k nl sz es := rfl
@[simp] theorem asB_sl (n : Nat) (nl : Option Bool) (es : List (List C)) (k : Option Bool → List (List C) → Option Res) : asB n (.sl true nl n es) k = k nl es := by simp [asB, C.asBase]
@[simp] theorem asO_sl (n : Nat) (nl : Option Bool) (es : List (List C)) (k : Option Bool → List (List C) → Option Res) : asO n (.sl true nl n es) k = k nl es := by simp [asO]
theorem set_map {α : Type} {f : α → List C} {l : List α} {i : Nat} {y : α} : (l.map f).set i (f y) = (l.set i y).map f := by
  apply List.ext_getElem?
  intro k
  simp only [List.getElem?_map, List.getElem?_set]
  by_cases e : i = k
  · subst e; by_cases hi : i < l.length <;> simp [hi]
  · simp [e]
/-- A loop that compares two lists. -/
theorem iter_eq {h : Sh} {fb : h.K → h.K} {α : Type} [DecidableEq α] (l l' : List α) (ev : Nat → h.K → Option Res) (yes no : Option Res) (hl : l.length < 4611686018427387904) (hll : l.length = l'.length)
    (h0 : ∀ nx, ev l.length (fb nx) = yes)
    (h1 : ∀ nx i (hi : i < l.length) (hi' : i < l'.length), W ((i : Int) + 1) = (i : Int) + 1 → ev i (fb nx) = bif decide (l[i] = l'[i]) then ev (i + 1) nx else no) :
    ev 0 (iterC fb FUEL) = bif decide (l = l') then yes else no := by
  have key : ∀ (j i : Nat), l.length < i + j → i ≤ l.length → ev i (iterC fb j) = bif decide (l.drop i = l'.drop i) then yes else no := by
    intro j
    induction j with
    | zero => intro i h1 h2; omega
    | succ j ih =>
      intro i hj hi
      rw [iterC_succ]
      by_cases e : i = l.length
      · subst e
        rw [h0, List.drop_length, hll, List.drop_length]; rfl
      · have hlt : i < l.length := by omega
        have hlt' : i < l'.length := by omega
        have d1 : l.drop i = l[i] :: l.drop (i + 1) := List.drop_eq_getElem_cons hlt
        have d2 : l'.drop i = l'[i] :: l'.drop (i + 1) := List.drop_eq_getElem_cons hlt'
        rw [h1 _ i hlt hlt' (W_eq (by omega) (by omega)), d1, d2]
        by_cases ee : l[i] = l'[i]
        · rw [decide_eq_true ee, cond_true, ih (i + 1) (by omega) (by omega), ee]
          congr 1
          exact decide_eq_decide.2 (by simp only [List.cons.injEq, true_and])
        · have : ¬ (l[i] :: l.drop (i + 1) = l'[i] :: l'.drop (i + 1)) := fun h => ee (List.cons.inj h).1
          rw [decide_eq_false ee, decide_eq_false this]; rfl
  have := key FUEL 0 (by rw [FUEL_eq]; omega) (Nat.zero_le _)
  simpa using this
/-- The first that is so. -/
theorem iter_find {h : Sh} {fb : h.K → h.K} {α : Type} (l : List α) (ev : Nat → h.K → Option Res) (p : α → Bool) (found : Nat → Option Res) (no : Option Res) (hl : l.length < 4611686018427387904)
    (h0 : ∀ nx, ev l.length (fb nx) = no)
    (h1 : ∀ nx i (hi : i < l.length), W ((i : Int) + 1) = (i : Int) + 1 → ev i (fb nx) = bif p l[i] then found i else ev (i + 1) nx) :
    ev 0 (iterC fb FUEL) = bif l.any p then found (l.findIdx p) else no := by
  refine (iter_rec (A := Unit) l (fun i _ => ev i) (fun _ r => bif r.any p then found (l.length - r.length + r.findIdx p) else no) (fun _ _ => True) hl (fun nx a _ => h0 nx) (fun nx i rest a hi _ hW hd => ?_) () trivial).trans (by simp)
  have := h1 nx i hi hW
  have hlen : rest.length = l.length - (i + 1) := by rw [← hd]; simp
  cases hp : p l[i] with
  | true =>
    rw [hp] at this
    refine .inr (this.trans ?_)
    have : l.length - (l[i] :: rest).length = i := by simp only [List.length_cons]; omega
    rw [this]
    simp [hp, List.findIdx_cons]
  | false =>
    rw [hp] at this
    refine .inl ⟨(), trivial, this, ?_⟩
    have e1 : l.length - (l[i] :: rest).length = i := by simp only [List.length_cons]; omega
    have e2 : l.length - rest.length = i + 1 := by omega
    rw [e1, e2]
    simp only [List.any_cons, hp, Bool.false_or, List.findIdx_cons, cond_false]
    congr 2
    omega
def inB (n a b : Int) : Bool := decide (a ≤ n) && decide (n ≤ b)
theorem inB_iff {n a b : Int} : inB n a b = true ↔ a ≤ n ∧ n ≤ b := by simp [inB]
end Go.Proofs.Gh
