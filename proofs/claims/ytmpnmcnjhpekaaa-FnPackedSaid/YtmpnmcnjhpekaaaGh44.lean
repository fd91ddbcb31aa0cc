/- A law's arguments, opened: contents that are only read. -/
import Derived.Test.YtmpnmcnjhpekaaaGh43
import Derived.Deep.Slices
import Derived.ChangeOld
import Derived.ChangeArms
import Derived.Below
set_option linter.unusedSimpArgs false
namespace Go.Proofs.Gh
open Go Go.RowKit Go.ChangeShapes Go.Deep

inductive All2 {α β : Type} (R : α → β → Prop) : List α → List β → Prop
  | nil : All2 R [] []
  | cons {a b l l'} : R a b → All2 R l l' → All2 R (a :: l) (b :: l')
/-- Contents of a type. -/
def Typed (P : Program) : Nat → TypeId → List C → Prop
  | 0, _, _ => False
  | k + 1, t, ds => match P.underlying t with
    | some (.int ki) => ∃ n, ds = [.v (.int ki n)] ∧ (Lit.int ki n).wf = true
    | some .bool => ∃ b, ds = [.v (.bool b)]
    | some .string => ∃ s, ds = [.v (.string s)] ∧ s.size ≤ maxLen
    | some (.slice e) => ∃ es, ds = [.sl false none (P.cellsOf e) es] ∧ es.length ≤ maxLen ∧ ∀ row ∈ es, Typed P k e row
    | some (.struct fs) => ∃ parts : List (List C), ds = parts.flatten ∧ All2 (fun (f : Field) p => Typed P k f.type p) fs.toList parts
    | _ => False
def contig (P : Program) : List Field → Nat → Option Nat
  | [], off => some off
  | f :: fs, off => if f.offset = off then contig P fs (off + P.cellsOf f.type) else none
/-- Numbers, texts, and slices and structs of such. -/
def plainT (P : Program) : Nat → TypeId → Bool
  | 0, _ => false
  | k + 1, t => match P.underlying t with
    | some (.int _) => true
    | some .bool => true
    | some .string => true
    | some (.slice e) => plainT P k e && decide (0 < P.cellsOf e)
    | some (.struct fs) => fs.toList.all (fun f => plainT P k f.type) && decide (contig P fs.toList 0 = some (P.cellsOf t))
    | _ => false
section
variable {H : Type} {enc : TypeId × Value → H} {P : Program} {w : World} {spare : Nat → Bool} {held : Bool} {γ : Nat → Bx}
abbrev Old (w : World) : Nat → Prop := fun b => b < w.heap.size
theorem listOf {α : Type} (n : Nat) (Q : Nat → α → Prop) (h : ∀ i, i < n → ∃ x, Q i x) : ∃ l : List α, l.length = n ∧ ∀ (i : Nat) (x : α), l[i]? = some x → Q i x := by
  induction n with
  | zero => exact ⟨[], rfl, fun i x hx => by simp at hx⟩
  | succ n ih =>
    obtain ⟨l, hl, hq⟩ := ih (fun i hi => h i (by omega))
    obtain ⟨x, hx⟩ := h n (by omega)
    refine ⟨l ++ [x], by simp [hl], fun i y hy => ?_⟩
    by_cases hi : i < l.length
    · rw [List.getElem?_append_left hi] at hy; exact hq i y hy
    · rw [List.getElem?_append_right (by omega)] at hy
      have : i = n := by
        have := (List.getElem?_eq_some_iff.1 hy).1
        simp at this; omega
      subst this
      rw [hl] at hy; simp at hy; subst hy; exact hx
theorem opened_fields {k : Nat} (ih : ∀ (t : TypeId) (n : Nat) (cs : List Value) (x : DataW H × List MemPlace), plainT P k t = true → DataW.trod enc P w 0 spare held n t cs = some x →
      ∃ ds, Typed P k t ds ∧ ds.length = cs.length ∧ ∀ (j : Nat) (u : Value) (c : C), cs[j]? = some u → ds[j]? = some c → Rep (Old w) γ w 0 u c (fun _ => False)) {n : Nat} {cs : List Value} : ∀ (fs : List Field) (off total : Nat), contig P fs off = some total → total ≤ cs.length →
    (∀ f ∈ fs, plainT P k f.type = true) → (∀ f ∈ fs, ∃ y, DataW.trod enc P w 0 spare held n f.type ((cs.drop f.offset).take (P.cellsOf f.type)) = some y) →
    ∃ parts : List (List C), All2 (fun (f : Field) p => Typed P k f.type p) fs parts ∧ off + parts.flatten.length = total ∧ ∀ (j : Nat) (u : Value) (c : C), cs[off + j]? = some u → parts.flatten[j]? = some c → Rep (Old w) γ w 0 u c (fun _ => False)
  | [], off, total, hc, hl, hp, hf => by
    simp only [contig, Option.some.injEq] at hc
    exact ⟨[], .nil, by simpa using hc, by simp⟩
  | f :: fs, off, total, hc, hl, hp, hf => by
    simp only [contig] at hc
    split at hc
    · rename_i ho
      obtain ⟨y, hy⟩ := hf f (by simp)
      obtain ⟨ds, h1, h2, h3⟩ := ih _ _ _ _ (hp f (by simp)) hy
      obtain ⟨parts, e1, e2, e3⟩ := opened_fields ih fs (off + P.cellsOf f.type) total hc hl (fun g hg => hp g (by simp [hg])) (fun g hg => hf g (by simp [hg]))
      have hlen : ds.length = P.cellsOf f.type := by
        rw [h2, ho]
        simp
        omega
      refine ⟨ds :: parts, .cons h1 e1, by rw [List.flatten_cons, List.length_append, hlen]; omega, fun j u c hu hcc => ?_⟩
      simp only [List.flatten_cons] at hcc
      by_cases hj : j < ds.length
      · rw [List.getElem?_append_left hj] at hcc
        refine h3 j u c ?_ hcc
        rw [List.getElem?_take, if_pos (by omega), List.getElem?_drop, ho]
        exact hu
      · rw [List.getElem?_append_right (by omega)] at hcc
        refine e3 (j - ds.length) u c ?_ hcc
        rw [← hu]
        congr 1
        omega
    · cases hc
theorem opened : ∀ (k : Nat) (t : TypeId) (n : Nat) (cs : List Value) (x : DataW H × List MemPlace), plainT P k t = true → DataW.trod enc P w 0 spare held n t cs = some x →
    ∃ ds, Typed P k t ds ∧ ds.length = cs.length ∧ ∀ (j : Nat) (u : Value) (c : C), cs[j]? = some u → ds[j]? = some c → Rep (Old w) γ w 0 u c (fun _ => False)
  | 0, t, n, cs, x, hp, h => by simp [plainT] at hp
  | k + 1, t, n, cs, x, hp, h => by
    have one : ∀ {v : Value}, v.oneCell' = true → cs = [v] → ([C.v v] : List C).length = cs.length ∧ ∀ (j : Nat) (u : Value) (c : C), cs[j]? = some u → ([C.v v] : List C)[j]? = some c → Rep (Old w) γ w 0 u c (fun _ => False) := fun {v} hv e => by
      subst e
      refine ⟨rfl, fun j u c hu hc => ?_⟩
      cases j with
      | zero => simp at hu hc; subst hu hc; exact .v _ _ _ hv
      | succ j => simp at hu
    simp only [plainT] at hp
    split at hp
    · rename_i ki hd
      obtain ⟨m, e, _, hw⟩ := DataW.trod_int hd h
      exact ⟨_, by simp only [Typed, hd]; exact ⟨m, rfl, hw⟩, one rfl e⟩
    · rename_i hd
      obtain ⟨b, e, _⟩ := DataW.trod_bool hd h
      exact ⟨_, by simp only [Typed, hd]; exact ⟨b, rfl⟩, one rfl e⟩
    · rename_i hd
      obtain ⟨s, e, _, hs⟩ := DataW.trod_string hd h
      exact ⟨_, by simp only [Typed, hd]; exact ⟨s, rfl, hs⟩, one rfl e⟩
    · rename_i e hd
      simp only [Bool.and_eq_true, decide_eq_true_eq] at hp
      rcases open_slice hd h with ⟨rfl, _⟩ | ⟨a, len, cap, m, n', D, Pl, rfl, _, hl, hm, hmm, _, hi⟩
      · refine ⟨[.sl false none (P.cellsOf e) []], by simp only [Typed, hd]; exact ⟨[], rfl, by simp, by simp⟩, rfl, fun j u c hu hc => ?_⟩
        cases j with
        | zero => simp at hu hc; subst hu hc; exact .nil _ _ _ _ _ (by simp)
        | succ j => simp at hu
      · have hlm : len ≤ m := by rw [hmm]; split <;> omega
        obtain ⟨es, he1, he2⟩ := listOf len (fun i (row : List C) => Typed P k e row ∧ row.length = P.cellsOf e ∧ ∀ (j : Nat) (c : C), row[j]? = some c → ∃ u, w.cell? (a.add (i * P.cellsOf e + j)) = some u ∧ Rep (Old w) γ w 0 u c (fun _ => False)) (fun i hlt => by
          obtain ⟨cs', hc, ht'⟩ := hi i (by omega)
          obtain ⟨_, hcl, hat⟩ := World.cells?_some hc
          obtain ⟨ds, h1, h2, h3⟩ := opened k e n' cs' _ hp.1 ht'
          refine ⟨ds, h1, h2.trans hcl, fun j c hj => ?_⟩
          have hjl : j < cs'.length := by rw [← h2]; exact (List.getElem?_eq_some_iff.1 hj).1
          refine ⟨cs'[j], ?_, h3 j _ c (List.getElem?_eq_getElem hjl) hj⟩
          rw [← Go.Deep.add_add, hat j (by omega), List.getElem?_eq_getElem hjl])
        subst he1
        refine ⟨[.sl false none (P.cellsOf e) es], by
          simp only [Typed, hd]
          exact ⟨es, rfl, by omega, fun row hr => by
            obtain ⟨j, hj, rfl⟩ := List.getElem_of_mem hr
            exact (he2 j _ (List.getElem?_eq_getElem hj)).1⟩, rfl, fun j u c hu hc => ?_⟩
        cases j with
        | succ j => simp at hu
        | zero =>
          simp at hu hc; subst hu hc
          refine Rep.ro _ a cap (P.cellsOf e) none es (fun i j => (w.cell? (a.add (i * P.cellsOf e + j))).getD undef) _ (by simp) (fun hne => ?_) hl hm (fun i row hr => (he2 i row hr).2.1) (fun i row j c hr hj => ?_) (fun i row j c hr hj => ?_)
          · cases es with
            | nil => exact absurd rfl hne
            | cons row es =>
              obtain ⟨_, h2, h3⟩ := he2 0 row rfl
              have h0 : 0 < row.length := by omega
              obtain ⟨u, hu, _⟩ := h3 0 _ (List.getElem?_eq_getElem h0)
              by_cases hb : a.block < w.heap.size
              · exact hb
              · exfalso
                have hn : w.heap[(a.add (0 * P.cellsOf e + 0)).block]? = none := by rw [Gh.add_block]; exact Array.getElem?_eq_none (Nat.le_of_not_lt hb)
                simp only [World.cell?, hn] at hu
                simp at hu
          · obtain ⟨u, hu, _⟩ := (he2 i row hr).2.2 j c hj
            rw [hu]; rfl
          · obtain ⟨u, hu, hrp⟩ := (he2 i row hr).2.2 j c hj
            rw [hu]; exact hrp
    · rename_i fs hd
      simp only [Bool.and_eq_true, decide_eq_true_eq, List.all_eq_true] at hp
      obtain ⟨xs, n', rfl, _, hlen, hxl, hf⟩ := DataW.trod_struct hd h
      obtain ⟨parts, h1, h2, h3⟩ := opened_fields (γ := γ) (fun t n cs x => opened k t n cs x) (n := n') (cs := cs) fs.toList 0 (P.cellsOf t) hp.2 (by omega) hp.1 (fun f hfm => by
        obtain ⟨i, hi, rfl⟩ := List.getElem_of_mem hfm
        have hia : i < fs.size := by simpa using hi
        have := hf i fs[i] (Array.getElem?_eq_getElem hia)
        have hx : xs[i]? = some (xs[i]'(by omega)) := List.getElem?_eq_getElem (by omega)
        rw [hx] at this
        exact ⟨_, by simpa using this⟩)
      refine ⟨parts.flatten, by simp only [Typed, hd]; exact ⟨parts, rfl, h1⟩, by omega, fun j u c hu hc => h3 j u c (by simpa using hu) hc⟩
    · cases hp
/-- At the beginning of a law's run nothing may be written. -/
theorem start {us : List Value} {xs : List S} (hl : us.length = xs.length) (h : ∀ (i : Nat) (u : Value) (s : S), us[i]? = some u → xs[i]? = some s → SlotOk ⟨[], []⟩ (Old w) γ w u s) (ht : TabOk ⟨w, fun _ _ => False, Old w, fun _ => none⟩ (Old w)) :
    Rel ⟨w, fun _ _ => False, Old w, fun _ => none⟩ γ (Old w) (fun _ => none) [] ⟨xs, []⟩ us.toArray w := by
  constructor
  · exact ht
  · simpa using hl
  · intro t s u hs hu
    exact (h t u s (by simpa using hu) hs).move fun u c h => CellOk.boxes (σ := ⟨[], []⟩) (σ' := ⟨xs, []⟩) rfl h
  · intro r k c hc; simp [St.root] at hc
  · intro r b g o hb; simp at hb
  · intro r b hb; simp at hb
  · intro i x hx; simp at hx
  · intro b x hb; cases hb
  · intro b hb; exact ⟨hb, rfl⟩
  · exact ⟨rfl, rfl, rfl, Nat.le_refl _, fun _ _ _ => rfl, fun _ _ _ _ => ⟨rfl, rfl⟩⟩
  · intro b x hb; cases hb
  · intro r x hx; cases hx
theorem enter_ro : ∀ (ms : List Mode) (xs : List S) (bs : List Box), ms.all Mode.isRo = true → ms.length = xs.length → enter ms xs bs = (xs, bs)
  | [], [], bs, _, _ => rfl
  | m :: ms, x :: xs, bs, h, hl => by
    simp only [List.all_cons, Bool.and_eq_true] at h
    cases m with
    | ro => simp [enter, enter_ro ms xs bs h.2 (by simpa using hl)]
    | _ => simp [Mode.isRo] at h
  | [], _ :: _, _, _, hl => by simp at hl
  | _ :: _, [], _, _, hl => by simp at hl
/-- A law that computes true. -/
theorem law_calls {f : FuncId} {sp : Spec} (hok : SpecOk P f sp) (hro : sp.modes.all Mode.isRo = true) {us : List Value} {xs : List S} (hl : us.length = xs.length) (hm : sp.modes.length = xs.length)
    (h : ∀ (i : Nat) (u : Value) (s : S), us[i]? = some u → xs[i]? = some s → SlotOk ⟨[], []⟩ (Old w) γ w u s) (ht : TabOk ⟨w, fun _ _ => False, Old w, fun _ => none⟩ (Old w)) {outs : List S} (hr : sp.run xs = some (.one (.v (.bool true)), outs)) :
    Calls P f us.toArray w fun e w' => e = .returned (.bool true) ∧ Below w.heap.size w w' := by
  have R := start (γ := γ) hl h ht
  have he := enter_ro sp.modes xs [] hro hm
  refine (hok ⟨w, fun _ _ => False, Old w, fun _ => none⟩ γ (fun _ => none) us xs _ (by rw [he]; exact R) hm hr).mono fun e w' hp => ?_
  obtain ⟨v, hand, γ', ow', bs', rfl, hres, R', _⟩ := hp
  replace hres : ResultIs v (.one (.v (.bool true))) hand := hres.resolve_right fun ⟨_, h⟩ => by
    cases h with
    | one h => obtain ⟨_, _, _, _, _, h, _⟩ := h; cases h
  refine ⟨?_, ?_⟩
  · cases hres with
    | one h1 =>
      cases h1 with
      | one u c =>
        have hrep : Rep (Old w) γ' w' bs'.length v (.v (.bool true)) _ := R'.hands 0 _ rfl
        cases hrep
        rfl
  · have hc := R'.chg
    exact ⟨hc.os, hc.tape, hc.output, hc.size, fun b hb => hc.same b hb (fun _ h => h)⟩
end
@[simp] theorem all2_nil {α β : Type} {R : α → β → Prop} {m : List β} : All2 R [] m ↔ m = [] := ⟨fun h => by cases h; rfl, fun h => by subst h; exact .nil⟩
@[simp] theorem all2_cons {α β : Type} {R : α → β → Prop} {a : α} {l : List α} {m : List β} : All2 R (a :: l) m ↔ ∃ b m', m = b :: m' ∧ R a b ∧ All2 R l m' :=
  ⟨fun h => by cases h with | cons h1 h2 => exact ⟨_, _, rfl, h1, h2⟩, fun ⟨b, m', e, h1, h2⟩ => by subst e; exact .cons h1 h2⟩
theorem rows_map {α : Type} {f : α → List C} {G : α → Prop} : ∀ {es : List (List C)}, (∀ row ∈ es, ∃ a, row = f a ∧ G a) → ∃ l : List α, es = l.map f ∧ ∀ a ∈ l, G a
  | [], _ => ⟨[], rfl, by simp⟩
  | row :: es, h => by
    obtain ⟨a, rfl, ha⟩ := h row (by simp)
    obtain ⟨l, rfl, hl⟩ := rows_map (f := f) (G := G) (es := es) (fun r hr => h r (by simp [hr]))
    exact ⟨a :: l, rfl, by simpa using ⟨ha, hl⟩⟩
end Go.Proofs.Gh
