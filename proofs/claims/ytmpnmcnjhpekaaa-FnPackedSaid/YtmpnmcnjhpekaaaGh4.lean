/- What a ghost state says of the slots and of memory; the steps by which it changes. -/
import Derived.Test.YtmpnmcnjhpekaaaGh3
import Derived.Lib.ItoaNum
namespace Go.Proofs.Gh
open Go.RowKit

inductive Ow where
  | box (r : Nat)
  | cell (r k : Nat)
  | hand (i : Nat)
/-- What held when the function began: memory; the cells that it may write; the blocks that stay. -/
structure Base where
  w : World
  Y : Nat → Nat → Prop
  st : Nat → Prop
  pin : Nat → Option Bx

/-- Package-level variables that read as the program's text lays them: block, cells. -/
def GLOBS : List (Nat × List Value) := []
/-- They do, and stay so. -/
def TabOk (B : Base) (st : Nat → Prop) : Prop := ∀ x ∈ GLOBS, (∃ t fr, B.w.heap[x.1]? = some (.cells x.2.toArray t fr)) ∧ (∀ o, ¬ B.Y x.1 o) ∧ st x.1
def cellV (γ : Nat → Bx) (w : World) (r k : Nat) : Option Value :=
  match γ r with
  | .mem g o => w.cell? ⟨g, o + k, none⟩
  | .val vs => vs[k]?
def placeV (γ : Nat → Bx) (w : World) (p : Place) : Option Value := (cellV γ w p.r p.k).bind (walkV w p.steps)
def placeA (γ : Nat → Bx) (w : World) (p : Place) : Option Addr :=
  match p.steps with
  | [] => match γ p.r with
    | .mem g o => some ⟨g, o + p.k, none⟩
    | .val _ => none
  | st => (cellV γ w p.r p.k).bind (walkA w st)
def St.nodeC (σ : St) (p : Place) : Option C := (σ.root p.r p.k).bind (walkC p.steps)
theorem nodeK_eq (σ : St) (p : Place) (k : C → Option Res) : σ.nodeK p k = (σ.nodeC p).bind k := by
  unfold St.nodeK St.nodeC
  rw [Option.bind_assoc]
  congr 1; funext c; exact walkK_eq _ _ _

inductive CellOk (σ : St) (st : Nat → Prop) (γ : Nat → Bx) (w : World) : Value → C → Prop
  | unk (u) : CellOk σ st γ w u .unk
  | rep (u c) : Rep st γ w σ.boxes.length u c (fun _ => False) → CellOk σ st γ w u c
  | al (p : Place) (u : Value) (d : C) : σ.nodeC p = some d → (∀ x, d ≠ .v x) → placeV γ w p = some u → CellOk σ st γ w u (.al p)
  | pl (p : Place) (before : List Step) (s : Step) (d : C) (ad : Addr) : p.steps = before ++ [s] → σ.nodeC ⟨p.r, p.k, before⟩ = some d → (∃ x, d.asOwn s.sz = some x) →
      placeA γ w p = some ad → CellOk σ st γ w (.pointer (some ad)) (.pl p)
  | rp (ad : Addr) (cs : List C) (us : Nat → Value) : (cs ≠ [] → st ad.block) → (∀ (j : Nat) (c : C), cs[j]? = some c → w.cell? (ad.add j) = some (us j)) →
      (∀ (j : Nat) (c : C), cs[j]? = some c → Rep st γ w 0 (us j) c (fun _ => False)) → CellOk σ st γ w (.pointer (some ad)) (.rp cs)
  | pa (r k g o : Nat) (ps : List (Option Place)) (us : Nat → Value) : r < σ.boxes.length → γ r = .mem g o → (∀ (j : Nat) (p : Place), ps[j]? = some (some p) → CellOk σ st γ w (us j) (.al ⟨r, k + j, []⟩)) →
      (∀ (j : Nat) (p : Place), ps[j]? = some (some p) → CellOk σ st γ w (us j) (.al p)) → CellOk σ st γ w (.pointer (some ⟨g, o + k, none⟩)) (.pa r k ps)
  | wi (p : Place) (sz l h len cap : Nat) (ad : Option Addr) : CellOk σ st γ w (.slice ad len cap) (.al p) → l ≤ h → h ≤ len →
      CellOk σ st γ w (.slice (if cap = l then ad else ad.map (·.add (l * sz))) (h - l) (cap - l)) (.wi p sz l h)
theorem paAny_false {h : Place → Bool} {ps : List (Option Place)} (ha : paAny h ps = false) {j : Nat} {p : Place} (hj : ps[j]? = some (some p)) : h p = false := by
  simp only [paAny, List.any_eq_false] at ha
  have := ha _ (List.mem_of_getElem? hj)
  simpa using this
theorem cell_al {σ : St} {st : Nat → Prop} {γ : Nat → Bx} {w : World} {u : Value} {p : Place} (h : CellOk σ st γ w u (.al p)) : ∃ d, σ.nodeC p = some d ∧ (∀ x, d ≠ .v x) ∧ placeV γ w p = some u := by
  cases h with
  | rep _ _ hr => cases hr
  | al _ _ d h1 h2 h3 => exact ⟨d, h1, h2, h3⟩
theorem CellOk.weak {σ : St} {st : Nat → Prop} {γ : Nat → Bx} {w : World} {u : Value} {c : C} (h : CellOk σ st γ w u c) : CellOk σ st γ w u c.weak := by
  cases h with
  | unk => exact .unk _
  | rep _ _ h => exact .rep _ _ h.weak
  | al p _ d h1 h2 h3 => exact .al p _ d h1 h2 h3
  | pl p before s d ad h1 h2 h3 h4 => exact .pl p before s d ad h1 h2 h3 h4
  | rp ad cs us h1 h2 h3 => exact .rp ad cs us h1 h2 h3
  | pa r k g o ps us h1 h2 h3 h4 => exact .pa r k g o ps us h1 h2 h3 h4
  | wi p sz l h len cap ad h1 h2 h3 => exact .wi p sz l h len cap ad h1 h2 h3
theorem cell_rp {σ : St} {st : Nat → Prop} {γ : Nat → Bx} {w : World} {u : Value} {cs : List C} (h : CellOk σ st γ w u (.rp cs)) : ∃ (ad : Addr) (us : Nat → Value), u = .pointer (some ad) ∧ (cs ≠ [] → st ad.block) ∧ (∀ (j : Nat) (c : C), cs[j]? = some c → w.cell? (ad.add j) = some (us j)) ∧
    (∀ (j : Nat) (c : C), cs[j]? = some c → Rep st γ w 0 (us j) c (fun _ => False)) := by
  cases h with
  | rep _ _ hr => cases hr with
    | rp _ ad _ us _ h1 h2 h3 => exact ⟨ad, us, rfl, h1, h2, h3⟩
  | rp ad _ us h1 h2 h3 => exact ⟨ad, us, rfl, h1, h2, h3⟩
inductive SlotOk (σ : St) (st : Nat → Prop) (γ : Nat → Bx) (w : World) : Value → S → Prop
  | one (u c) : CellOk σ st γ w u c → SlotOk σ st γ w u (.one c)
  | agg (us : List Value) (cs : List C) : us.length = cs.length → (∀ (i : Nat) (u : Value) (c : C), us[i]? = some u → cs[i]? = some c → CellOk σ st γ w u c) → SlotOk σ st γ w (.agg us.toArray) (.agg cs)
  | tup (us : List Value) (ss : List S) : us.length = ss.length → (∀ (i : Nat) (u : Value) (s : S), us[i]? = some u → ss[i]? = some s → SlotOk σ st γ w u s) → SlotOk σ st γ w (.tuple us.toArray) (.tup ss)

/-! ### Steps, once more -/
theorem walkA_append (w : World) (before : List Step) (s : Step) (u : Value) :
    walkA w (before ++ [s]) u = (walkV w before u).bind fun v => match v with | .slice (some a) _ _ => some (a.add (s.i * s.sz + s.j)) | _ => none := by
  induction before generalizing u with
  | nil => cases u with
    | slice a l c => cases a <;> rfl
    | _ => rfl
  | cons t rest ih =>
    cases u with
    | slice a l c =>
      cases a with
      | none => cases rest <;> rfl
      | some a =>
        cases hr : rest ++ [s] with
        | nil => simp at hr
        | cons x y =>
          simp only [List.cons_append, hr, walkA, walkV]
          rw [← hr, Option.bind_assoc]
          congr 1; funext v; exact ih v
    | _ => cases rest <;> rfl
theorem placeA_append (γ : Nat → Bx) (w : World) (r k : Nat) (before : List Step) (s : Step) :
    placeA γ w ⟨r, k, before ++ [s]⟩ = (placeV γ w ⟨r, k, before⟩).bind fun v => match v with | .slice (some a) _ _ => some (a.add (s.i * s.sz + s.j)) | _ => none := by
  unfold placeA placeV
  cases h : before ++ [s] with
  | nil => simp at h
  | cons x y =>
    simp only
    rw [← h, Option.bind_assoc]
    congr 1; funext v; exact walkA_append w before s v
theorem leads_append {q p : List Step} (s : Step) (h : leads q p = true) : leads q (p ++ [s]) = true := by
  induction q generalizing p with
  | nil => rfl
  | cons t q ih =>
    cases p with
    | nil => simp [leads] at h
    | cons t' p =>
      simp only [leads, Bool.and_eq_true, List.cons_append] at h ⊢
      exact ⟨h.1, ih h.2⟩
theorem leads_length {q p : List Step} (h : leads q p = true) : q.length ≤ p.length := by
  induction q generalizing p with
  | nil => simp
  | cons t q ih =>
    cases p with
    | nil => simp [leads] at h
    | cons t' p =>
      simp only [leads, Bool.and_eq_true] at h
      have := ih h.2
      simp; omega
theorem leads_refl (p : List Step) : leads p p = true := by
  induction p with
  | nil => rfl
  | cons s p ih => simp [leads, ih]

/-- Are the steps p a beginning of q? -/
def pre : List Step → List Step → Prop
  | [], _ => True
  | s :: p, t :: q => s.i = t.i ∧ s.j = t.j ∧ pre p q
  | _ :: _, [] => False
theorem leads_of_pre : ∀ {p q : List Step}, pre p q → leads p q = true
  | [], _, _ => rfl
  | s :: p, t :: q, h => by simp [leads, h.2.1, leads_of_pre h.2.2]
/-- Two contents that serve an anchor alike. -/
def Alike (d d' : C) : Prop := ((∀ x, d ≠ .v x) → ∀ x, d' ≠ .v x) ∧ ∀ n x, d.asOwn n = some x → ∃ x', d'.asOwn n = some x'
theorem Alike.refl (d : C) : Alike d d := ⟨fun h => h, fun _ x h => ⟨x, h⟩⟩

/-- After a node has been written, the others are there still. -/
theorem walkC_plant (c' : C) : ∀ (qs ps : List Step) (c d0 d : C), walkC qs c = some d0 → walkC ps c = some d → ¬ (qs.length < ps.length ∧ pre qs ps) →
    ∃ d', walkC ps (plant qs c' c) = some d' ∧ (Alike d d' ∨ (ps = qs ∧ d' = c' ∧ d = d0))
  | [], [], c, d0, d, h0, hd, _ => by
    simp only [walkC, Option.some.injEq] at h0 hd
    exact ⟨c', rfl, .inr ⟨rfl, rfl, by rw [← h0, ← hd]⟩⟩
  | [], t :: ps, c, d0, d, _, _, hn => absurd ⟨by simp, trivial⟩ hn
  | s :: qs, [], c, d0, d, h0, hd, _ => by
    simp only [walkC, Option.some.injEq] at hd
    subst hd
    simp only [walkC, Option.bind_eq_some_iff] at h0
    obtain ⟨x, hx, _⟩ := h0
    have hc := asOwn_some hx
    subst hc
    refine ⟨_, rfl, .inl ⟨fun _ x => by simp [plant], fun n y hy => ?_⟩⟩
    simp only [plant, C.asOwn] at hy ⊢
    split at hy
    · rename_i e; rw [if_pos e]; exact ⟨_, rfl⟩
    · cases hy
  | s :: qs, t :: ps, c, d0, d, h0, hd, hn => by
    simp only [walkC, Option.bind_eq_some_iff] at h0 hd
    obtain ⟨x, hx, row, hrow, c1, hc1, h0⟩ := h0
    obtain ⟨y, hy, row2, hrow2, c2, hc2, hd⟩ := hd
    have hc := asOwn_some hx
    subst hc
    have hsz : s.sz = t.sz := by
      simp only [C.asOwn] at hy
      split at hy
      · assumption
      · cases hy
    obtain rfl : x = y := by simp [C.asOwn, hsz] at hy; exact hy
    simp only [plant]
    by_cases e : s.i = t.i
    · rw [← e] at hrow2
      rw [hrow] at hrow2
      cases hrow2
      by_cases e' : s.j = t.j
      · rw [← e'] at hc2
        rw [hc1] at hc2
        cases hc2
        obtain ⟨d', h1, h2⟩ := walkC_plant c' qs ps c1 d0 d h0 hd (fun hh => hn ⟨by simpa using hh.1, e, e', hh.2⟩)
        refine ⟨d', ?_, h2.imp id fun h => ⟨?_, h.2⟩⟩
        · simp only [walkC, C.asOwn, hsz, if_true, Option.bind_some]
          rw [← e, getElem?_modify_self, hrow]
          simp only [Option.map_some, Option.bind_some]
          rw [← e', getElem?_modify_self, hc1]
          simpa using h1
        · rw [h.1]
          congr 1
          cases s; cases t; simp_all
      · refine ⟨d, ?_, .inl (Alike.refl d)⟩
        simp only [walkC, C.asOwn, hsz, if_true, Option.bind_some]
        rw [← e, getElem?_modify_self, hrow]
        simp only [Option.map_some, Option.bind_some]
        rw [getElem?_modify_ne _ _ e', hc2]
        exact hd
    · refine ⟨d, ?_, .inl (Alike.refl d)⟩
      simp only [walkC, C.asOwn, hsz, if_true, Option.bind_some]
      rw [getElem?_modify_ne _ _ e, hrow2]
      simp only [Option.bind_some]
      rw [hc2]
      exact hd

section
variable {st : Nat → Prop} {γ : Nat → Bx} {w : World}
/-- A cell of a tree is written: what does not lie beyond it has the value that it had. -/
theorem walkV_other (v' : Value) : ∀ (qs ps : List Step) {m : Nat} {u : Value} {c d0 d : C} {X : Nat → Prop} {g o : Nat}, Rep st γ w m u c X → qs ≠ [] → walkC qs c = some d0 → walkC ps c = some d →
    ¬ pre qs ps → walkA w qs u = some ⟨g, o, none⟩ → X g ∧ walkV (w.setCell ⟨g, o, none⟩ v') ps u = walkV w ps u
  | [], _, _, _, _, _, _, _, _, _, _, hne, _, _, _, _ => absurd rfl hne
  | s :: qs, ps, m, u, c, d0, d, X, g', o', h, _, h0, hd, hl, hA => by
    simp only [walkC, Option.bind_eq_some_iff] at h0
    obtain ⟨x, hx, row, hrow, c', hc', h0⟩ := h0
    have hc := asOwn_some hx
    obtain ⟨nl, es⟩ := x
    simp only at hc hrow
    subst hc
    cases h with
    | nil _ o _ _ _ h1 => simp at hrow
    | own _ g o cap sz _ _ us Xs e cur _ h1 h2 h3 h4 h5 h6 h7 h8 h9 h10 h11 h12 =>
      have hlen : row.length = s.sz := h7 _ _ hrow
      have hjl : s.j < s.sz := by rw [← hlen]; exact (List.getElem?_eq_some_iff.1 hc').1
      have hcell : ∀ i j row c, es[i]? = some row → row[j]? = some c → w.cell? ⟨g, o + (i * s.sz + j), none⟩ = some (us i j) := fun i j row c hi hj => by
        rw [cell_of_row w g _ cur e (0, 0) h3]; exact h8 _ _ _ _ hi hj
      have hfr : ∀ b, b ≠ g' → (w.setCell ⟨g', o', none⟩ v').heap[b]? = w.heap[b]? := fun b hb => heap_setCell_other w _ b v' hb
      -- where the written cell lies
      have hwhere : (qs = [] ∧ g' = g ∧ o' = o + (s.i * s.sz + s.j)) ∨ (qs ≠ [] ∧ walkA w qs (us s.i s.j) = some ⟨g', o', none⟩) := by
        cases qs with
        | nil =>
          simp only [walkA, add_lit, Option.some.injEq, Addr.mk.injEq] at hA
          exact .inl ⟨rfl, hA.1.symm, hA.2.1.symm⟩
        | cons t rest =>
          simp only [walkA, add_lit, hcell _ _ _ _ hrow hc', Option.bind_some] at hA
          exact .inr ⟨by simp, hA⟩
      cases ps with
      | nil =>
        rcases hwhere with ⟨_, rfl, _⟩ | ⟨hq, hA'⟩
        · exact ⟨h2, rfl⟩
        · -- the written block is one of the inner ones
          have hin : Xs s.i s.j g' := by
            cases qs with
            | nil => exact absurd rfl hq
            | cons t rest => exact (walkV_other v' (t :: rest) [] (h9 _ _ _ _ hrow hc') hq h0 rfl id hA').1
          exact ⟨h10 _ _ _ hin, rfl⟩
      | cons t ps =>
        simp only [walkC, Option.bind_eq_some_iff] at hd
        obtain ⟨y, hy, row2, hrow2, c2, hc2, hd⟩ := hd
        have hsz : s.sz = t.sz := by
          simp only [C.asOwn] at hy
          split at hy
          · assumption
          · cases hy
        have hyy : y = (nl, es) := by simp [C.asOwn, hsz] at hy; exact hy.symm
        subst hyy
        simp only at hrow2
        have hlen2 : row2.length = s.sz := h7 _ _ hrow2
        have hjl2 : t.j < s.sz := by rw [← hlen2]; exact (List.getElem?_eq_some_iff.1 hc2).1
        have hcell2 := hcell _ _ _ _ hrow2 hc2
        simp only [walkV, add_lit, ← hsz]
        by_cases eij : s.i = t.i ∧ s.j = t.j
        · obtain ⟨e1, e2⟩ := eij
          rw [← e1] at hrow2
          rw [hrow] at hrow2
          cases hrow2
          rw [← e2] at hc2
          rw [hc'] at hc2
          cases hc2
          have hl' : ¬ pre qs ps := fun h => hl ⟨e1, e2, h⟩
          rcases hwhere with ⟨rfl, _⟩ | ⟨hq, hA'⟩
          · exact absurd trivial hl'
          · obtain ⟨hin, hv⟩ := walkV_other v' qs ps (h9 _ _ _ _ hrow hc') hq h0 hd hl' hA'
            refine ⟨h10 _ _ _ hin, ?_⟩
            have hne : g ≠ g' := fun hgg => h11 _ _ (hgg ▸ hin)
            rw [← e1, ← e2, World.cell?_of_block (w := w) (hfr g hne), hcell _ _ _ _ hrow hc']
            exact hv
        · rcases hwhere with ⟨rfl, rfl, rfl⟩ | ⟨hq, hA'⟩
          · refine ⟨h2, ?_⟩
            have hoff : ¬ (s.i * s.sz + s.j = t.i * s.sz + t.j) := fun hh => eij (cellIndex hjl hjl2 hh)
            have hcs : (w.setCell ⟨g', o + (s.i * s.sz + s.j), none⟩ v').cell? ⟨g', o + (t.i * s.sz + t.j), none⟩ = w.cell? ⟨g', o + (t.i * s.sz + t.j), none⟩ := by
              rw [cell_of_row _ g' _ _ _ _ (heap_setCell_same w g' _ cur e v' h3), cell_of_row w g' _ cur e (0, 0) h3, Array.getElem?_setIfInBounds_ne]
              omega
            rw [hcs, hcell2]
            simp only [Option.bind_some]
            exact walkV_same ps (h9 _ _ _ _ hrow2 hc2) hd (fun b hb => hfr b (fun hbg => h11 _ _ (hbg ▸ hb)))
          · have hin : Xs s.i s.j g' := by
              cases qs with
              | nil => exact absurd rfl hq
              | cons t rest => exact (walkV_other v' (t :: rest) [] (h9 _ _ _ _ hrow hc') hq h0 rfl id hA').1
            refine ⟨h10 _ _ _ hin, ?_⟩
            have hne : g ≠ g' := fun hgg => h11 _ _ (hgg ▸ hin)
            rw [World.cell?_of_block (w := w) (hfr g hne), hcell2]
            simp only [Option.bind_some]
            refine walkV_same ps (h9 _ _ _ _ hrow2 hc2) hd (fun b hb => hfr b (fun hbg => eij ?_))
            subst hbg
            exact h12 _ _ _ _ _ hin hb
end
end Go.Proofs.Gh
