/- How ghost values stand for the machine's: what a content says of a value and of memory; reading and changing a node of a tree. -/
import Derived.Test.YtmpnmcnjhpekaaaGh2
import Derived.Laws.AppendOwn
namespace Go.Proofs.Gh
open Go.RowKit

inductive Bx where
  | mem (g o : Nat)
  | val (vs : List Value)

theorem add_lit (g o n : Nat) : (⟨g, o, none⟩ : Addr).add n = ⟨g, o + n, none⟩ := by
  unfold Addr.add; split <;> simp_all
theorem add_add (a : Addr) (m n : Nat) : (a.add m).add n = a.add (m + n) := by
  unfold Addr.add
  by_cases hm : m = 0 <;> by_cases hn : n = 0 <;> simp [hm, hn, Nat.add_assoc]
theorem add_block (a : Addr) (n : Nat) : (a.add n).block = a.block := by unfold Addr.add; split <;> rfl

/-- 'u' is what content 'c' says, and what it owns of memory lies in the blocks X. 'st': blocks that stay as they are; 'n': the boxes that may be named. -/
inductive Rep (st : Nat → Prop) (γ : Nat → Bx) (w : World) : Nat → Value → C → (Nat → Prop) → Prop
  | unk (n u X) : u.oneCell' = true → Rep st γ w n u .unk X
  | v (n x X) : x.oneCell' = true → Rep st γ w n x (.v x) X
  | nil (n o nl sz X) : nl ≠ some false → Rep st γ w n (.slice none 0 0) (.sl o nl sz []) X
  | ro (n : Nat) (a : Addr) (cap sz : Nat) (nl : Option Bool) (es : List (List C)) (us : Nat → Nat → Value) (X : Nat → Prop) :
      nl ≠ some true → (es ≠ [] → st a.block) → es.length ≤ cap → cap ≤ maxLen → (∀ (i : Nat) (row : List C), es[i]? = some row → row.length = sz) →
      (∀ (i : Nat) (row : List C) (j : Nat) (c : C), es[i]? = some row → row[j]? = some c → w.cell? (a.add (i * sz + j)) = some (us i j)) →
      (∀ (i : Nat) (row : List C) (j : Nat) (c : C), es[i]? = some row → row[j]? = some c → Rep st γ w 0 (us i j) c (fun _ => False)) →
      Rep st γ w n (.slice (some a) es.length cap) (.sl false nl sz es) X
  | own (n g o cap sz : Nat) (nl : Option Bool) (es : List (List C)) (us : Nat → Nat → Value) (Xs : Nat → Nat → Nat → Prop) (e : TypeId) (cur : Array Value) (X : Nat → Prop) :
      nl ≠ some true → X g → w.heap[g]? = some (.cells cur e (0, 0)) → o + cap * sz ≤ cur.size → es.length ≤ cap → cap ≤ maxLen → (∀ (i : Nat) (row : List C), es[i]? = some row → row.length = sz) →
      (∀ (i : Nat) (row : List C) (j : Nat) (c : C), es[i]? = some row → row[j]? = some c → cur[o + (i * sz + j)]? = some (us i j)) →
      (∀ (i : Nat) (row : List C) (j : Nat) (c : C), es[i]? = some row → row[j]? = some c → Rep st γ w 0 (us i j) c (Xs i j)) →
      (∀ i j b, Xs i j b → X b) → (∀ i j, ¬ Xs i j g) → (∀ i j i' j' b, Xs i j b → Xs i' j' b → i = i' ∧ j = j') →
      Rep st γ w n (.slice (some ⟨g, o, none⟩) es.length cap) (.sl true nl sz es) X
  | fn (n f : Nat) (caps : List C) (us : List Value) (X : Nat → Prop) : us.length = caps.length →
      (∀ (i : Nat) (c : C) (u : Value), caps[i]? = some c → us[i]? = some u → Rep st γ w n u c (fun _ => False)) → Rep st γ w n (.func (.func f) #[] us.toArray) (.fn f caps) X
  | ifcNil (n X) : Rep st γ w n .nilIface (.ifc true) X
  | ifc (n t u X) : Rep st γ w n (.iface t u) (.ifc false) X
  | rp (n : Nat) (ad : Addr) (cs : List C) (us : Nat → Value) (X : Nat → Prop) : (cs ≠ [] → st ad.block) → (∀ (j : Nat) (c : C), cs[j]? = some c → w.cell? (ad.add j) = some (us j)) →
      (∀ (j : Nat) (c : C), cs[j]? = some c → Rep st γ w 0 (us j) c (fun _ => False)) → Rep st γ w n (.pointer (some ad)) (.rp cs) X
  | box (n r k g o : Nat) (X : Nat → Prop) : r < n → γ r = .mem g o → Rep st γ w n (.pointer (some ⟨g, o + k, none⟩)) (.pl ⟨r, k, []⟩) X
  | mp (n g : Nat) (kvs : List (ByteArray × Value)) (ms : Array MapEntry) (clk : Nat) (X : Nat → Prop) : X g → w.heap[g]? = some (.map ms clk) → ms.toList.map (fun e => (e.key, e.val)) = kvs.map (fun x => (Value.string x.1, x.2)) → (∀ x ∈ kvs, x.2.oneCell' = true) →
      Rep st γ w n (.map (some g)) (.mp kvs) X

section
variable {st st' : Nat → Prop} {γ γ' : Nat → Bx} {w w' : World} {n m : Nat} {u : Value} {c : C} {X Y : Nat → Prop}

theorem Rep.one (h : Rep st γ w n u c X) : u.oneCell' = true := by
  cases h <;> first | assumption | rfl

theorem Rep.mono (h : Rep st γ w n u c X) (hX : ∀ b, X b → Y b) : Rep st γ w n u c Y := by
  cases h with
  | unk _ _ _ h1 => exact .unk _ _ _ h1
  | v _ _ _ h1 => exact .v _ _ _ h1
  | nil _ o nl sz _ h1 => exact .nil _ _ _ _ _ h1
  | ro _ a cap sz nl es us _ h1 h2 h3 h4 h5 h6 h7 => exact .ro _ _ _ _ _ _ us _ h1 h2 h3 h4 h5 h6 h7
  | own _ g o cap sz nl es us Xs e cur _ h1 h2 h3 h4 h5 h6 h7 h8 h9 h10 h11 h12 => exact .own _ _ _ _ _ _ _ us Xs e cur _ h1 (hX _ h2) h3 h4 h5 h6 h7 h8 h9 (fun i j b hb => hX _ (h10 i j b hb)) h11 h12
  | fn _ f caps us _ h1 h2 => exact .fn _ _ _ _ _ h1 h2
  | ifcNil => exact .ifcNil _ _
  | ifc _ t u => exact .ifc _ _ _ _
  | rp _ ad cs us _ h1 h2 h3 => exact .rp _ ad cs us _ h1 h2 h3
  | box _ r k g o _ h1 h2 => exact .box _ _ _ _ _ _ h1 h2
  | mp _ g kvs ms clk _ h1 h2 h3 h4 => exact .mp _ g kvs ms clk _ (hX _ h1) h2 h3 h4

theorem Rep.weak (h : Rep st γ w n u c X) : Rep st γ w n u c.weak X := by
  cases h with
  | nil _ o nl sz _ h1 => exact .nil _ _ _ _ _ (by simp)
  | ro _ a cap sz nl es us _ h1 h2 h3 h4 h5 h6 h7 => exact .ro _ _ _ _ _ _ us _ (by simp) h2 h3 h4 h5 h6 h7
  | own _ g o cap sz nl es us Xs e cur _ h1 h2 h3 h4 h5 h6 h7 h8 h9 h10 h11 h12 => exact .own _ _ _ _ _ _ _ us Xs e cur _ (by simp) h2 h3 h4 h5 h6 h7 h8 h9 h10 h11 h12
  | unk _ _ _ h1 => exact .unk _ _ _ h1
  | v _ _ _ h1 => exact .v _ _ _ h1
  | fn _ f caps us _ h1 h2 => exact .fn _ _ _ _ _ h1 h2
  | ifcNil => exact .ifcNil _ _
  | ifc _ t u => exact .ifc _ _ _ _
  | rp _ ad cs us _ h1 h2 h3 => exact .rp _ ad cs us _ h1 h2 h3
  | box _ r k g o _ h1 h2 => exact .box _ _ _ _ _ _ h1 h2
  | mp _ g kvs ms clk _ h1 h2 h3 h4 => exact .mp _ g kvs ms clk _ h1 h2 h3 h4
/-- Memory changes elsewhere; more blocks stay; more boxes may be named. -/
theorem Rep.frame (h : Rep st γ w n u c X) (hst : ∀ b, st b → st' b) (hn : n ≤ m) (hγ : ∀ r, r < n → γ' r = γ r)
    (hw : ∀ b, st b ∨ X b → w'.heap[b]? = w.heap[b]?) : Rep st' γ' w' m u c X := by
  induction h generalizing m with
  | unk _ _ _ h1 => exact .unk _ _ _ h1
  | v _ _ _ h1 => exact .v _ _ _ h1
  | nil _ o nl sz _ h1 => exact .nil _ _ _ _ _ h1
  | ro _ a cap sz nl es us _ h1 h2 h3 h4 h5 h6 h7 ih =>
    refine .ro _ _ _ _ _ _ us _ h1 (fun he => hst _ (h2 he)) h3 h4 h5 (fun i row j c hi hj => ?_) (fun i row j c hi hj => ih i row j c hi hj (Nat.le_refl 0) (fun r hr => absurd hr (Nat.not_lt_zero r)) (fun b hb => hw b (hb.imp id (fun h => h.elim))))
    have hne : es ≠ [] := by intro e; subst e; simp at hi
    rw [World.cell?_of_block (w := w) (by rw [add_block]; exact hw _ (.inl (h2 hne)))]
    exact h6 i row j c hi hj
  | own _ g o cap sz nl es us Xs e cur _ h1 h2 h3 h4 h5 h6 h7 h8 h9 h10 h11 h12 ih =>
    exact .own _ _ _ _ _ _ _ us Xs e cur _ h1 h2 ((hw _ (.inr h2)).trans h3) h4 h5 h6 h7 h8 (fun i row j c hi hj => ih i row j c hi hj (Nat.le_refl 0) (fun r hr => absurd hr (Nat.not_lt_zero r)) (fun b hb => hw b (hb.imp id (h10 i j b)))) h10 h11 h12
  | fn _ f caps us _ h1 h2 ih =>
    exact .fn _ _ _ _ _ h1 (fun i c u hc hu => ih i c u hc hu hn hγ (fun b hb => hw b (hb.imp id (fun h => h.elim))))
  | ifcNil => exact .ifcNil _ _
  | ifc _ t u => exact .ifc _ _ _ _
  | rp _ ad cs us _ h1 h2 h3 ih =>
    refine .rp _ ad cs us _ (fun he => hst _ (h1 he)) (fun j c hj => ?_) (fun j c hj => ih j c hj (Nat.le_refl 0) (fun r hr => absurd hr (Nat.not_lt_zero r)) (fun b hb => hw b (hb.imp id (fun h => h.elim))))
    have hne : cs ≠ [] := by intro e; subst e; simp at hj
    rw [World.cell?_of_block (w := w) (by rw [add_block]; exact hw _ (.inl (h1 hne)))]
    exact h2 j c hj
  | box _ r k g o _ h1 h2 => exact .box _ _ _ _ _ _ (Nat.lt_of_lt_of_le h1 hn) ((hγ r h1).trans h2)
  | mp _ g kvs ms clk _ h1 h2 h3 h4 => exact .mp _ g kvs ms clk _ h1 ((hw _ (.inr h1)).trans h2) h3 h4

theorem Rep.same (h : Rep st γ w n u c X) (hw : ∀ b, st b ∨ X b → w'.heap[b]? = w.heap[b]?) : Rep st γ w' n u c X :=
  h.frame (fun _ h => h) (Nat.le_refl n) (fun _ _ => rfl) hw

/-- A nested content names no box. -/
theorem Rep.any (h : Rep st γ w 0 u c X) : Rep st γ' w n u c X :=
  h.frame (fun _ h => h) (Nat.zero_le _) (fun r hr => absurd hr (Nat.not_lt_zero r)) (fun _ _ => rfl)
end

/-! ### Along steps -/
/-- The value at the end of steps. -/
def walkV (w : World) : List Step → Value → Option Value
  | [], u => some u
  | s :: rest, .slice (some a) _ _ => (w.cell? (a.add (s.i * s.sz + s.j))).bind (walkV w rest)
  | _ :: _, _ => none
/-- The address at the end of steps. -/
def walkA (w : World) : List Step → Value → Option Addr
  | [], _ => none
  | [s], .slice (some a) _ _ => some (a.add (s.i * s.sz + s.j))
  | s :: rest, .slice (some a) _ _ => (w.cell? (a.add (s.i * s.sz + s.j))).bind (walkA w rest)
  | _ :: _, _ => none
/-- The content at the end of steps through what is owned. -/
def walkC : List Step → C → Option C
  | [], c => some c
  | s :: rest, c => (c.asOwn s.sz).bind fun x => (x.2[s.i]?).bind fun row => (row[s.j]?).bind (walkC rest)

theorem walkK_eq (steps : List Step) (c : C) (k : C → Option Res) : walkK steps c k = (walkC steps c).bind k := by
  induction steps generalizing c with
  | nil => rfl
  | cons s rest ih =>
    simp only [walkK, walkC, Option.bind_assoc]
    congr 1; funext x; congr 1; funext row; congr 1; funext d
    exact ih d

theorem asOwn_some {n : Nat} {c : C} {x : Option Bool × List (List C)} (h : c.asOwn n = some x) : c = .sl true x.1 n x.2 := by
  unfold C.asOwn at h
  split at h
  · split at h
    · rename_i e; subst e; cases h; rfl
    · cases h
  · cases h
theorem asRo_some {n : Nat} {c : C} {x : List (List C)} (h : c.asRo n = some x) : ∃ nl, c = .sl false nl n x := by
  unfold C.asRo at h
  split at h
  · rename_i nl sz es
    split at h
    · rename_i e; subst e; cases h; exact ⟨nl, rfl⟩
    · cases h
  · cases h

theorem getElem?_modify_self {α : Type} (l : List α) (i : Nat) (f : α → α) : (l.modify i f)[i]? = (l[i]?).map f := by
  rw [List.getElem?_modify]; simp
theorem getElem?_modify_ne {α : Type} (l : List α) {i j : Nat} (f : α → α) (h : i ≠ j) : (l.modify i f)[j]? = l[j]? := by
  rw [List.getElem?_modify]; cases l[j]? <;> simp [h]

section
variable {st : Nat → Prop} {γ : Nat → Bx} {w : World} {n : Nat}
/-- A node of a tree: its value, what it owns; another content may take its place, as far as it stands for the same value. -/
theorem Rep.node : ∀ (steps : List Step) {m : Nat} {u : Value} {c d : C} {X : Nat → Prop}, Rep st γ w m u c X → walkC steps c = some d →
    ∃ v Z k, walkV w steps u = some v ∧ Rep st γ w k v d Z ∧ k ≤ m ∧ (∀ b, Z b → X b) ∧
      ∀ d' Z', Rep st γ w k v d' Z' → (∀ b, Z' b → X b → Z b) → Rep st γ w m u (plant steps d' c) (fun b => (X b ∧ ¬ Z b) ∨ Z' b)
  | [], m, u, c, d, X, h, hd => by
    simp only [walkC, Option.some.injEq] at hd
    subst hd
    exact ⟨u, X, m, rfl, h, Nat.le_refl _, fun _ h => h, fun d' Z' hr _ => hr.mono fun b hb => .inr hb⟩
  | s :: rest, m, u, c, d, X, h, hd => by
    simp only [walkC, Option.bind_eq_some_iff] at hd
    obtain ⟨x, hx, row, hrow, c', hc', hd⟩ := hd
    have hc := asOwn_some hx
    obtain ⟨nl, es⟩ := x
    simp only at hc hrow
    subst hc
    cases h with
    | nil _ o _ _ _ h1 => simp at hrow
    | own _ g o cap sz _ _ us Xs e cur _ h1 h2 h3 h4 h5 h6 h7 h8 h9 h10 h11 h12 =>
      obtain ⟨v, Z, k, hv, hr, hk, hZ, hp⟩ := Rep.node rest (h9 _ _ _ _ hrow hc') hd
      have hlen : row.length = s.sz := h7 _ _ hrow
      have hcell : w.cell? ((⟨g, o, none⟩ : Addr).add (s.i * s.sz + s.j)) = some (us s.i s.j) := by
        rw [add_lit, cell_of_row w g _ cur e (0, 0) h3]; exact h8 _ _ _ _ hrow hc'
      refine ⟨v, Z, k, ?_, hr, Nat.le_trans hk (Nat.zero_le _), fun b hb => h10 _ _ _ (hZ b hb), fun d' Z' hr' hd' => ?_⟩
      · simp only [walkV, hcell, Option.bind_some]; exact hv
      have hin := hp d' Z' hr' (fun b hb hx => hd' b hb (h10 _ _ _ hx))
      have hgZ : ¬ Z' g := fun hg => h11 s.i s.j (hZ g (hd' g hg h2))
      simp only [plant]
      have hl : (es.modify s.i fun row => row.modify s.j (plant rest d')).length = es.length := by simp
      rw [← hl]
      refine Rep.own m g o cap s.sz nl (es.modify s.i fun row => row.modify s.j (plant rest d')) us
        (fun i j b => if i = s.i ∧ j = s.j then (Xs i j b ∧ ¬ Z b) ∨ Z' b else Xs i j b) e cur (fun b => (X b ∧ ¬ Z b) ∨ Z' b) h1
        (.inl ⟨h2, fun hz => h11 _ _ (hZ g hz)⟩) h3 h4 (by simpa using h5) h6 ?_ ?_ ?_ ?_ ?_ ?_
      · intro i row' hi
        by_cases e : s.i = i
        · subst e
          rw [getElem?_modify_self, hrow] at hi
          simp only [Option.map_some, Option.some.injEq] at hi
          subst hi
          simpa using hlen
        · rw [getElem?_modify_ne _ _ e] at hi
          exact h7 _ _ hi
      · intro i row' j c'' hi hj
        by_cases e : s.i = i
        · subst e
          rw [getElem?_modify_self, hrow] at hi
          simp only [Option.map_some, Option.some.injEq] at hi
          subst hi
          by_cases e' : s.j = j
          · subst e'
            exact h8 _ _ _ _ hrow hc'
          · rw [getElem?_modify_ne _ _ e'] at hj
            exact h8 _ _ _ _ hrow hj
        · rw [getElem?_modify_ne _ _ e] at hi
          exact h8 _ _ _ _ hi hj
      · intro i row' j c'' hi hj
        by_cases e : s.i = i
        · subst e
          rw [getElem?_modify_self, hrow] at hi
          simp only [Option.map_some, Option.some.injEq] at hi
          subst hi
          by_cases e' : s.j = j
          · subst e'
            rw [getElem?_modify_self, hc'] at hj
            simp only [Option.map_some, Option.some.injEq] at hj
            subst hj
            simp only [and_self, if_true]
            exact hin
          · rw [getElem?_modify_ne _ _ e'] at hj
            simp only [true_and, if_neg (Ne.symm e')]
            exact h9 _ _ _ _ hrow hj
        · rw [getElem?_modify_ne _ _ e] at hi
          simp only [(Ne.symm e : ¬ i = s.i), false_and, if_false]
          exact h9 _ _ _ _ hi hj
      · intro i j b hb
        by_cases e : i = s.i ∧ j = s.j
        · rw [if_pos e] at hb
          rcases hb with ⟨hb, hz⟩ | hb
          · exact .inl ⟨h10 _ _ _ hb, hz⟩
          · exact .inr hb
        · rw [if_neg e] at hb
          refine .inl ⟨h10 _ _ _ hb, fun hz => e ?_⟩
          exact h12 _ _ _ _ b hb (hZ b hz)
      · intro i j hb
        by_cases e : i = s.i ∧ j = s.j
        · rw [if_pos e] at hb
          rcases hb with ⟨hb, _⟩ | hb
          · exact h11 _ _ hb
          · exact hgZ hb
        · rw [if_neg e] at hb
          exact h11 _ _ hb
      · intro i j i' j' b hb hb'
        by_cases e : i = s.i ∧ j = s.j <;> by_cases e' : i' = s.i ∧ j' = s.j
        · exact ⟨e.1.trans e'.1.symm, e.2.trans e'.2.symm⟩
        · rw [if_pos e] at hb
          rw [if_neg e'] at hb'
          rcases hb with ⟨hb, _⟩ | hb
          · exact h12 _ _ _ _ b hb hb'
          · have hxb := h10 _ _ _ hb'
            have hzb := hd' b hb hxb
            have := h12 _ _ _ _ b (hZ b hzb) hb'
            exact absurd ⟨this.1.symm, this.2.symm⟩ e'
        · rw [if_neg e] at hb
          rw [if_pos e'] at hb'
          rcases hb' with ⟨hb', _⟩ | hb'
          · exact h12 _ _ _ _ b hb hb'
          · have hxb := h10 _ _ _ hb
            have hzb := hd' b hb' hxb
            have := h12 _ _ _ _ b (hZ b hzb) hb
            exact absurd ⟨this.1.symm, this.2.symm⟩ e
        · rw [if_neg e] at hb
          rw [if_neg e'] at hb'
          exact h12 _ _ _ _ b hb hb'

theorem cellIndex {sz i j i' j' : Nat} (hj : j < sz) (hj' : j' < sz) (h : i * sz + j = i' * sz + j') : i = i' ∧ j = j' := by
  have h1 : (i * sz + j) / sz = i := by rw [Nat.mul_comm, Nat.mul_add_div (by omega), Nat.div_eq_of_lt hj, Nat.add_zero]
  have h2 : (i' * sz + j') / sz = i' := by rw [Nat.mul_comm, Nat.mul_add_div (by omega), Nat.div_eq_of_lt hj', Nat.add_zero]
  have h3 : i = i' := by rw [← h1, ← h2, h]
  subst h3
  exact ⟨rfl, by omega⟩

/-- A cell of a tree of which nothing is said may be written. -/
theorem Rep.write : ∀ (steps : List Step) {m : Nat} {u : Value} {c : C} {X : Nat → Prop}, Rep st γ w m u c X → (∀ b, st b → ¬ X b) → walkC steps c = some .unk → steps ≠ [] →
    ∃ g o old, walkA w steps u = some ⟨g, o, none⟩ ∧ X g ∧ w.cell? ⟨g, o, none⟩ = some old ∧ w.frozen? ⟨g, o, none⟩ = false ∧
      ∀ v', v'.oneCell' = true → Rep st γ (w.setCell ⟨g, o, none⟩ v') m u c X ∧ walkV (w.setCell ⟨g, o, none⟩ v') steps u = some v'
  | [], _, _, _, _, _, _, _, hne => absurd rfl hne
  | s :: rest, m, u, c, X, h, hsX, hd, _ => by
    simp only [walkC, Option.bind_eq_some_iff] at hd
    obtain ⟨x, hx, row, hrow, c', hc', hd⟩ := hd
    have hc := asOwn_some hx
    obtain ⟨nl, es⟩ := x
    simp only at hc hrow
    subst hc
    cases h with
    | nil _ o _ _ _ h1 => simp at hrow
    | own _ g o cap sz _ _ us Xs e cur _ h1 h2 h3 h4 h5 h6 h7 h8 h9 h10 h11 h12 =>
      have hlen : row.length = s.sz := h7 _ _ hrow
      have hjl : s.j < s.sz := by rw [← hlen]; exact (List.getElem?_eq_some_iff.1 hc').1
      have hcur := h8 _ _ _ _ hrow hc'
      have hcell : w.cell? ⟨g, o + (s.i * s.sz + s.j), none⟩ = some (us s.i s.j) := by
        rw [cell_of_row w g _ cur e (0, 0) h3]; exact hcur
      cases rest with
      | nil =>
        simp only [walkC, Option.some.injEq] at hd
        subst hd
        refine ⟨g, _, _, by simp only [walkA, add_lit], h2, hcell, frozen_of_row w g _ cur e h3, fun v' hv' => ?_⟩
        have hg := heap_setCell_same w g (o + (s.i * s.sz + s.j)) cur e v' h3
        have hsz : o + (s.i * s.sz + s.j) < cur.size := (Array.getElem?_eq_some_iff.1 hcur).1
        have hfr : ∀ b, b ≠ g → (w.setCell ⟨g, o + (s.i * s.sz + s.j), none⟩ v').heap[b]? = w.heap[b]? := fun b hb => heap_setCell_other w _ b v' hb
        constructor
        · refine Rep.own m g o cap s.sz nl es (fun i j => if i = s.i ∧ j = s.j then v' else us i j) Xs e _ X h1 h2 hg (by simpa using h4) h5 h6 h7 ?_ ?_ h10 h11 h12
          · intro i row' j c'' hi hj
            by_cases e : i = s.i ∧ j = s.j
            · obtain ⟨rfl, rfl⟩ := e
              simp [hsz]
            · rw [if_neg e, Array.getElem?_setIfInBounds_ne]
              · exact h8 _ _ _ _ hi hj
              · intro he
                refine e ?_
                have hj' : j < s.sz := by rw [← h7 _ _ hi]; exact (List.getElem?_eq_some_iff.1 hj).1
                have := cellIndex hjl hj' (Nat.add_left_cancel he)
                exact ⟨this.1.symm, this.2.symm⟩
          · intro i row' j c'' hi hj
            by_cases e : i = s.i ∧ j = s.j
            · obtain ⟨rfl, rfl⟩ := e
              rw [hrow] at hi
              cases hi
              rw [hc'] at hj
              cases hj
              simp only [and_self, if_true]
              exact .unk _ _ _ hv'
            · rw [if_neg e]
              refine (h9 _ _ _ _ hi hj).same fun b hb => hfr b ?_
              rcases hb with hb | hb
              · intro hbg; subst hbg; exact hsX _ hb h2
              · intro hbg; subst hbg; exact h11 _ _ hb
        · simp only [walkV, add_lit, cell_of_row _ g _ _ _ _ hg]
          simp [hsz]
      | cons s' rest' =>
        obtain ⟨g', o', old, hA, hXg, hold, hfz, hw⟩ := Rep.write (s' :: rest') (h9 _ _ _ _ hrow hc') (fun b hb hx => hsX b hb (h10 _ _ _ hx)) hd (by simp)
        have hne : g ≠ g' := fun hgg => h11 _ _ (hgg ▸ hXg)
        refine ⟨g', o', old, ?_, h10 _ _ _ hXg, hold, hfz, fun v' hv' => ?_⟩
        · simp only [walkA, add_lit, hcell, Option.bind_some]; exact hA
        obtain ⟨hr, hv⟩ := hw v' hv'
        have hfr : ∀ b, b ≠ g' → (w.setCell ⟨g', o', none⟩ v').heap[b]? = w.heap[b]? := fun b hb => heap_setCell_other w _ b v' hb
        constructor
        · refine Rep.own m g o cap s.sz nl es us Xs e cur X h1 h2 ((hfr g hne).trans h3) h4 h5 h6 h7 h8 ?_ h10 h11 h12
          intro i row' j c'' hi hj
          by_cases e : i = s.i ∧ j = s.j
          · obtain ⟨rfl, rfl⟩ := e
            rw [hrow] at hi
            cases hi
            rw [hc'] at hj
            cases hj
            exact hr
          · refine (h9 _ _ _ _ hi hj).same fun b hb => hfr b ?_
            rcases hb with hb | hb
            · intro hbg; subst hbg; exact hsX _ hb (h10 _ _ _ hXg)
            · intro hbg; subst hbg; exact e (h12 _ _ _ _ _ hb hXg)
        · rw [walkV.eq_def]
          simp only [add_lit]
          rw [World.cell?_of_block (w := w) (hfr g hne), hcell]
          exact hv
/-- What is written elsewhere leaves the value at the end of steps, and the address. -/
theorem walkV_same {w' : World} : ∀ (steps : List Step) {m : Nat} {u : Value} {c d : C} {X : Nat → Prop}, Rep st γ w m u c X → walkC steps c = some d → (∀ b, X b → w'.heap[b]? = w.heap[b]?) → walkV w' steps u = walkV w steps u
  | [], _, _, _, _, _, _, _, _ => rfl
  | s :: rest, m, u, c, d, X, h, hd, hw => by
    simp only [walkC, Option.bind_eq_some_iff] at hd
    obtain ⟨x, hx, row, hrow, c', hc', hd⟩ := hd
    have hc := asOwn_some hx
    obtain ⟨nl, es⟩ := x
    simp only at hc hrow
    subst hc
    cases h with
    | nil _ o _ _ _ h1 => simp at hrow
    | own _ g o cap sz _ _ us Xs e cur _ h1 h2 h3 h4 h5 h6 h7 h8 h9 h10 h11 h12 =>
      have hcell : w.cell? ⟨g, o + (s.i * s.sz + s.j), none⟩ = some (us s.i s.j) := by
        rw [cell_of_row w g _ cur e (0, 0) h3]; exact h8 _ _ _ _ hrow hc'
      simp only [walkV, add_lit]
      rw [World.cell?_of_block (w := w) (hw g h2), hcell]
      exact walkV_same rest (h9 _ _ _ _ hrow hc') hd (fun b hb => hw b (h10 _ _ _ hb))
end
end Go.Proofs.Gh
