/- The operations, third part: a load. -/
import Derived.Test.YtmpnmcnjhpekaaaGh11
namespace Go.Proofs.Gh
open Go.RowKit
section
variable {B : Base} {γ : Nat → Bx} {st : Nat → Prop} {ow : Nat → Option Ow} {hand : List (Value × C)} {σ : St} {w : World} {a : Act} {r : Res} {tmps : Array Value}

/-- The types are told right. -/
def EnvTy (P : Program) (E : Env) : Prop := ∀ t i, E.ty t = some i → TyOk P t i
theorem bound_some {E : Env} {t : TypeId} {k : TI → Option Res} (h : bound E t k = some r) : ∃ i, E.ty t = some i ∧ (∀ ts, i.kind ≠ .tuple ts) ∧ k i = some r := by
  unfold bound at h
  split at h
  · rename_i i hi
    split at h
    · cases h
    · rename_i hk
      exact ⟨i, hi, fun ts e => hk ts e, h⟩
  · cases h
theorem list_of (n : Nat) (Q : Nat → Value → Prop) (h : ∀ i, i < n → ∃ x, Q i x) : ∃ l : List Value, l.length = n ∧ ∀ (i : Nat) (x : Value), l[i]? = some x → Q i x := by
  induction n with
  | zero => exact ⟨[], rfl, fun i x hx => by simp at hx⟩
  | succ n ih =>
    obtain ⟨l, hl, hq⟩ := ih (fun i hi => h i (by omega))
    obtain ⟨y, hy⟩ := h n (by omega)
    refine ⟨l ++ [y], by simp [hl], fun i x hx => ?_⟩
    rcases getElem?_snoc hx with ⟨_, hx⟩ | ⟨rfl, rfl⟩
    · exact hq i x hx
    · rw [hl]; exact hy
theorem Rep.noown {n : Nat} {u : Value} {c : C} {X : Nat → Prop} (h : Rep st γ w n u c X) (hc : c.asOwnB = false) : Rep st γ w n u c (fun _ => False) := by
  cases h with
  | unk _ _ _ h1 => exact .unk _ _ _ h1
  | v _ _ _ h1 => exact .v _ _ _ h1
  | nil _ o nl sz _ h1 => exact .nil _ _ _ _ _ h1
  | ro _ a cap sz nl es us _ h1 h2 h3 h4 h5 h6 h7 => exact .ro _ _ _ _ _ _ us _ h1 h2 h3 h4 h5 h6 h7
  | own => simp [C.asOwnB] at hc
  | fn _ f caps us _ h1 h2 => exact .fn _ _ _ _ _ h1 h2
  | ifcNil => exact .ifcNil _ _
  | ifc _ t u => exact .ifc _ _ _ _
  | rp _ ad cs us _ h1 h2 h3 => exact .rp _ ad cs us _ h1 h2 h3
  | box _ r k g o _ h1 h2 => exact .box _ _ _ _ _ _ h1 h2
  | mp => simp [C.asOwnB] at hc
theorem shapePlain_ok {n : Nat} {X : Nat → Nat → Prop} : ∀ (cks : List CK) (cs : List C) (us : List Value) (j0 : Nat) {k : List C → Option Res}, cks.all CK.plain = true → us.length = cks.length →
    (∀ (i : Nat) (u : Value) (c : C), us[i]? = some u → cs[i]? = some c → Rep st γ w n u c (X (j0 + i))) → shapeRo cks cs k = some r →
    ∃ cs', k cs' = some r ∧ cs'.length = cks.length ∧ ∀ (i : Nat) (u : Value) (c : C), us[i]? = some u → cs'[i]? = some c → Rep st γ w n u c (fun _ => False)
  | [], cs, us, j0, k, _, _, _, h => ⟨[], h, rfl, fun i u c _ hc => by simp at hc⟩
  | ck :: cks, cs, us, j0, k, hp, hl, hc, h => by
    cases us with
    | nil => simp at hl
    | cons u us =>
      cases cs with
      | nil => simp [shapeRo] at h
      | cons c cs =>
        simp only [shapeRo, List.head?_cons, Option.bind_some, List.tail_cons] at h
        simp only [List.all_cons, Bool.and_eq_true] at hp
        obtain ⟨c', h1, hr, hv⟩ := shapeC_ok (hc 0 u c rfl rfl) h
        obtain ⟨x, rfl, _⟩ := hv hp.1
        obtain ⟨cs', h2, hl2, hc2⟩ := shapePlain_ok cks cs us (j0 + 1) hp.2 (by simpa using hl) (fun i u c hu hcs => by
          have := hc (i + 1) u c (by simpa using hu) (by simpa using hcs)
          rwa [show j0 + (i + 1) = j0 + 1 + i by omega] at this) h1
        refine ⟨.v x :: cs', h2, by simpa using hl2, fun i v d hv hd => ?_⟩
        cases i with
        | zero => simp at hv hd; subst hv hd; exact hr.noown rfl
        | succ i => exact hc2 i v d (by simpa using hv) (by simpa using hd)
theorem viewBox_cons (d : C) (cs : List C) (r k : Nat) : viewBox (d :: cs) r k = (if d.asOwnB then .al ⟨r, k, []⟩ else d) :: viewBox cs r (k + 1) := by
  cases d with
  | sl o nl sz es => cases o <;> rfl
  | _ => rfl
theorem viewBox_length : ∀ (cs : List C) (r k : Nat), (viewBox cs r k).length = cs.length
  | [], _, _ => rfl
  | c :: cs, r, k => by rw [viewBox_cons, List.length_cons, viewBox_length cs r (k + 1), List.length_cons]
theorem Rep.plSteps {n : Nat} {u : Value} {p : Place} {X : Nat → Prop} (h : Rep st γ w n u (.pl p) X) : p.steps = [] := by
  cases h; rfl
theorem viewBox_get : ∀ (cs : List C) (r k i : Nat) (c : C), (viewBox cs r k)[i]? = some c → ∃ d, cs[i]? = some d ∧ ((d.asOwnB = true ∧ c = .al ⟨r, k + i, []⟩) ∨ (d.asOwnB = false ∧ c = d))
  | [], _, _, _, _, h => by simp [viewBox] at h
  | d :: cs, r, k, i, c, h => by
    rw [viewBox_cons] at h
    cases i with
    | zero =>
      simp only [List.getElem?_cons_zero, Option.some.injEq] at h
      refine ⟨d, rfl, ?_⟩
      cases hd : d.asOwnB
      · rw [hd] at h; exact .inr ⟨rfl, by simpa using h.symm⟩
      · rw [hd] at h; exact .inl ⟨rfl, by simpa using h.symm⟩
    | succ i =>
      simp only [List.getElem?_cons_succ] at h
      obtain ⟨e, h1, h2⟩ := viewBox_get cs r (k + 1) i c h
      refine ⟨e, by simpa using h1, h2.imp (fun h => ⟨h.1, ?_⟩) id⟩
      rw [h.2]; congr 2; omega
theorem splitLast_some : ∀ {l before : List Step} {s : Step}, splitLast l = some (before, s) → l = before ++ [s]
  | [], _, _, h => by simp [splitLast] at h
  | [x], before, s, h => by simp [splitLast] at h; obtain ⟨rfl, rfl⟩ := h; rfl
  | x :: y :: l, before, s, h => by
    simp only [splitLast, Option.map_eq_some_iff] at h
    obtain ⟨q, hq, h⟩ := h
    simp only [Prod.mk.injEq] at h
    obtain ⟨rfl, rfl⟩ := h
    have := splitLast_some (before := q.1) (s := q.2) hq
    rw [this]; rfl
theorem splitLast_none : ∀ {l : List Step}, splitLast l = none → l = []
  | [], _ => rfl
  | [x], h => by simp [splitLast] at h
  | x :: y :: l, h => by
    simp only [splitLast, Option.map_eq_none_iff] at h
    have := splitLast_none h
    simp at this
theorem addLast_append (n : Nat) (before : List Step) (s : Step) : addLast n (before ++ [s]) = before ++ [⟨s.i, s.j + n, s.sz⟩] := by
  induction before with
  | nil => rfl
  | cons x rest ih =>
    cases hr : rest ++ [s] with
    | nil => simp at hr
    | cons y l =>
      simp only [List.cons_append, hr, addLast]
      rw [← hr, ih]
theorem Place.add_append (r k n : Nat) (before : List Step) (s : Step) : (⟨r, k, before ++ [s]⟩ : Place).add n = ⟨r, k, before ++ [⟨s.i, s.j + n, s.sz⟩]⟩ := by
  unfold Place.add
  cases hr : before ++ [s] with
  | nil => simp at hr
  | cons y l => simp only; rw [← hr, addLast_append]
theorem walkC_append : ∀ (before : List Step) (s : Step) (c : C), walkC (before ++ [s]) c = (walkC before c).bind fun d => (d.asOwn s.sz).bind fun x => (x.2[s.i]?).bind fun row => row[s.j]?
  | [], s, c => by
    simp only [List.nil_append, walkC, Option.bind_some]
    congr 1; funext x; congr 1; funext row
    cases row[s.j]? <;> rfl
  | t :: before, s, c => by
    simp only [List.cons_append, walkC, Option.bind_assoc]
    congr 1; funext x; congr 1; funext row; congr 1; funext d
    exact walkC_append before s d
theorem nodeC_append (σ : St) (r k : Nat) (before : List Step) (s : Step) : σ.nodeC ⟨r, k, before ++ [s]⟩ = (σ.nodeC ⟨r, k, before⟩).bind fun d => (d.asOwn s.sz).bind fun x => (x.2[s.i]?).bind fun row => row[s.j]? := by
  unfold St.nodeC
  rw [Option.bind_assoc]
  congr 1; funext c; exact walkC_append before s c
theorem placeV_append (r k : Nat) (before : List Step) (s : Step) : placeV γ w ⟨r, k, before ++ [s]⟩ = (placeA γ w ⟨r, k, before ++ [s]⟩).bind w.cell? := by
  rw [placeA_append]
  unfold placeV
  simp only
  rw [Option.bind_assoc, Option.bind_assoc]
  congr 1; funext v
  induction before generalizing v with
  | nil =>
    cases v with
    | slice a l c =>
      cases a with
      | none => rfl
      | some a => simp [walkV]
    | _ => rfl
  | cons t before ih =>
    cases v with
    | slice a l c =>
      cases a with
      | none => rfl
      | some a =>
        simp only [List.cons_append, walkV, Option.bind_assoc]
        congr 1; funext x; exact ih x
    | _ => rfl
/-- The cells of an own element. -/
theorem Rel.elemCells (R : Rel B γ st ow hand σ tmps w) {r0 k0 : Nat} {before : List Step} {s : Step} {c : C} {nl : Option Bool} {es : List (List C)} {row : List C} (hn : σ.nodeC ⟨r0, k0, before⟩ = some c) (hc : c.asOwn s.sz = some (nl, es)) (hrow : es[s.i]? = some row) :
    ∃ g o, (∀ j, placeA γ w ⟨r0, k0, before ++ [⟨s.i, j, s.sz⟩]⟩ = some ⟨g, o + (s.i * s.sz + j), none⟩) ∧ row.length = s.sz ∧
      ∀ (j : Nat) (d : C), row[j]? = some d → ∃ u, w.cell? ⟨g, o + (s.i * s.sz + j), none⟩ = some u ∧ ∃ X, Rep st γ w 0 u d X := by
  obtain ⟨_, _, v, Z, k, _, _, hv, hr, _⟩ := R.node hn
  have := asOwn_some hc
  simp only at this
  subst this
  cases hr with
  | nil => simp at hrow
  | own _ g o cap sz _ _ us Xs e cur _ h1 h2 h3 h4 h5 h6 h7 h8 h9 h10 h11 h12 =>
    refine ⟨g, o, fun j => ?_, h7 _ _ hrow, fun j d hj => ⟨us s.i j, ?_, Xs s.i j, h9 _ _ _ _ hrow hj⟩⟩
    · rw [placeA_append, hv]
      simp [add_lit]
    · rw [cell_of_row w g _ cur e (0, 0) h3]
      exact h8 _ _ _ _ hrow hj
theorem slice_ok {c : C} {x : Unit} (h : c.slice = some x) : ∀ y, c ≠ .v y := by
  intro y e
  subst e
  simp [C.slice] at h
theorem shapeOwn_ok (R : Rel B γ st ow hand σ tmps w) {r0 k0 : Nat} {before : List Step} {i sz : Nat} {c0 : C} {nl : Option Bool} {es : List (List C)} {row : List C} {g o : Nat} (hn : σ.nodeC ⟨r0, k0, before⟩ = some c0) (hc0 : c0.asOwn sz = some (nl, es)) (hrow : es[i]? = some row)
    (hA : ∀ j, placeA γ w ⟨r0, k0, before ++ [⟨i, j, sz⟩]⟩ = some ⟨g, o + (i * sz + j), none⟩) (hcells : ∀ (j : Nat) (d : C), row[j]? = some d → ∃ u, w.cell? ⟨g, o + (i * sz + j), none⟩ = some u ∧ ∃ X, Rep st γ w 0 u d X) :
    ∀ (cks : List CK) (j : Nat) {k : List C → Option Res}, shapeOwn cks (row.drop j) ⟨r0, k0, before ++ [⟨i, j, sz⟩]⟩ k = some r →
    ∃ (us : List Value) (cs' : List C), k cs' = some r ∧ us.length = cks.length ∧ cs'.length = cks.length ∧ (∀ (m : Nat) (u : Value), us[m]? = some u → w.cell? ⟨g, o + (i * sz + j) + m, none⟩ = some u) ∧ ∀ (m : Nat) (u : Value) (c : C), us[m]? = some u → cs'[m]? = some c → CellOk σ st γ w u c
  | [], j, k, h => ⟨[], [], h, rfl, rfl, fun m u hu => by simp at hu, fun m u c hu => by simp at hu⟩
  | ck :: cks, j, k, h => by
    have hstep : ∀ {k' : List C → Option Res}, shapeOwn cks (row.drop j).tail ((⟨r0, k0, before ++ [⟨i, j, sz⟩]⟩ : Place).add 1) k' = some r →
        ∃ (us : List Value) (cs' : List C), k' cs' = some r ∧ us.length = cks.length ∧ cs'.length = cks.length ∧ (∀ (m : Nat) (u : Value), us[m]? = some u → w.cell? ⟨g, o + (i * sz + (j + 1)) + m, none⟩ = some u) ∧ ∀ (m : Nat) (u : Value) (c : C), us[m]? = some u → cs'[m]? = some c → CellOk σ st γ w u c := by
      intro k' h'
      rw [Place.add_append, List.tail_drop] at h'
      exact shapeOwn_ok R hn hc0 hrow hA hcells cks (j + 1) h'
    have hfin : ∀ (u : Value) (c : C) (us : List Value) (cs' : List C), w.cell? ⟨g, o + (i * sz + j), none⟩ = some u → CellOk σ st γ w u c → (∀ (m : Nat) (u : Value), us[m]? = some u → w.cell? ⟨g, o + (i * sz + (j + 1)) + m, none⟩ = some u) →
        (∀ (m : Nat) (u : Value) (c : C), us[m]? = some u → cs'[m]? = some c → CellOk σ st γ w u c) → (∀ (m : Nat) (x : Value), (u :: us)[m]? = some x → w.cell? ⟨g, o + (i * sz + j) + m, none⟩ = some x) ∧ ∀ (m : Nat) (x : Value) (d : C), (u :: us)[m]? = some x → (c :: cs')[m]? = some d → CellOk σ st γ w x d := by
      intro u c us cs' hu hc hus hcs
      constructor
      · intro m x hx
        cases m with
        | zero => simp at hx; subst hx; exact hu
        | succ m => simp at hx; have := hus m x hx; rw [← this]; congr 2; omega
      · intro m x d hx hd
        cases m with
        | zero => simp at hx hd; subst hx hd; exact hc
        | succ m => simp at hx hd; exact hcs m x d hx hd
    cases hrj : row[j]? with
    | none =>
      have hdrop : row.drop j = [] := by
        rw [List.drop_eq_nil_iff]
        exact List.getElem?_eq_none_iff.1 hrj
      rw [hdrop] at h
      cases ck <;> simp [shapeOwn] at h
    | some c =>
      have hdrop : (row.drop j).head? = some c := by rw [List.head?_drop]; exact hrj
      obtain ⟨u, hu, X, hr⟩ := hcells j c hrj
      have hother : ∀ (hne : ∀ n, ck ≠ .sl n) (h2 : shapeC ck c (fun c' => shapeOwn cks (row.drop j).tail ((⟨r0, k0, before ++ [⟨i, j, sz⟩]⟩ : Place).add 1) fun cs' => k (c' :: cs')) = some r) (hpl : ck.plain = true), ∃ (us : List Value) (cs' : List C), k cs' = some r ∧ us.length = (ck :: cks).length ∧ cs'.length = (ck :: cks).length ∧ (∀ (m : Nat) (u : Value), us[m]? = some u → w.cell? ⟨g, o + (i * sz + j) + m, none⟩ = some u) ∧ ∀ (m : Nat) (u : Value) (c : C), us[m]? = some u → cs'[m]? = some c → CellOk σ st γ w u c := by
        intro _ h2 hpl
        obtain ⟨c', h3, hr', hv⟩ := shapeC_ok hr h2
        obtain ⟨x, rfl, _⟩ := hv hpl
        obtain ⟨us, cs', h4, hl1, hl2, hu2, hc2⟩ := hstep h3
        obtain ⟨h5, h6⟩ := hfin u (.v x) us cs' hu (.rep _ _ (hr'.noown rfl).any) hu2 hc2
        exact ⟨u :: us, .v x :: cs', h4, by simp [hl1], by simp [hl2], h5, h6⟩
      cases ck with
      | sl n =>
        simp only [shapeOwn, hdrop, Option.bind_some, Option.bind_eq_some_iff] at h
        obtain ⟨x, hx, h⟩ := h
        obtain ⟨us, cs', h4, hl1, hl2, hu2, hc2⟩ := hstep h
        have hal : CellOk σ st γ w u (.al ⟨r0, k0, before ++ [⟨i, j, sz⟩]⟩) := by
          refine .al _ _ c ?_ (slice_ok hx) ?_
          · rw [nodeC_append, hn]
            simp only [Option.bind_some, hc0, hrow]
            exact hrj
          · rw [placeV_append, hA]
            exact hu
        obtain ⟨h5, h6⟩ := hfin u _ us cs' hu hal hu2 hc2
        exact ⟨u :: us, _ :: cs', h4, by simp [hl1], by simp [hl2], h5, h6⟩
      | other => simp [shapeOwn] at h
      | int ki => simp only [shapeOwn, hdrop, Option.bind_some] at h; exact hother (by simp) h rfl
      | bool => simp only [shapeOwn, hdrop, Option.bind_some] at h; exact hother (by simp) h rfl
      | str => simp only [shapeOwn, hdrop, Option.bind_some] at h; exact hother (by simp) h rfl
theorem viewPa_length : ∀ (cs : List C) (ps : List (Option Place)), (viewPa cs ps).length = cs.length
  | [], _ => rfl
  | _ :: cs, ps => by simp [viewPa, viewPa_length cs]
theorem viewPa_get : ∀ (cs : List C) (ps : List (Option Place)) (j : Nat) (c : C), (viewPa cs ps)[j]? = some c → ∃ d, cs[j]? = some d ∧ ((∃ p, ps[j]? = some (some p) ∧ c = .al p) ∨ c = d.calm)
  | [], _, j, c, h => by simp [viewPa] at h
  | d :: cs, ps, 0, c, h => by
    simp only [viewPa, List.getElem?_cons_zero, Option.some.injEq] at h
    refine ⟨d, rfl, ?_⟩
    cases ps with
    | nil => exact .inr h.symm
    | cons o ps => cases o with
      | none => exact .inr h.symm
      | some p => exact .inl ⟨p, rfl, h.symm⟩
  | d :: cs, ps, j + 1, c, h => by
    simp only [viewPa, List.getElem?_cons_succ] at h
    obtain ⟨e, he, hh⟩ := viewPa_get cs ps.tail j c h
    refine ⟨e, by simpa using he, hh.imp (fun ⟨p, hp, hc⟩ => ⟨p, ?_, hc⟩) id⟩
    cases ps with
    | nil => simp at hp
    | cons o ps => simpa using hp
/-- LOAD. -/
theorem load_ok {P : Program} {E : Env} (hE : EnvTy P E) {t : TypeId} {x : Operand} {k : S → St → Option Res} (R : Rel B γ st ow hand σ a.tmps w)
    (h : (bound E t fun i => σ.loadK i (σ.view x) fun s => k s σ) = some r) : ∃ ad u s, a.eval x = .pointer (some ad) ∧ (∀ w2, Ext w w2 → (loadVar t ad).run P w2 = .ok u w2) ∧ k s σ = some r ∧ SlotOk σ st γ w u s := by
  obtain ⟨i, hi, hk, h⟩ := bound_some h
  have hT := hE t i hi
  have hx := R.view x
  obtain ⟨v0, hv0⟩ : ∃ v, v = a.eval x := ⟨_, rfl⟩
  rw [← hv0]
  have hfin : ∀ (ad : Addr) (us : List Value) (cs : List C), a.eval x = .pointer (some ad) → us.length = i.cks.length → cs.length = i.cks.length → (∀ (j : Nat) (u : Value), us[j]? = some u → w.cell? (ad.add j) = some u) →
      (∀ (j : Nat) (u : Value) (c : C), us[j]? = some u → cs[j]? = some c → CellOk σ st γ w u c) → k (S.mk i.agg cs) σ = some r → ∃ ad u s, v0 = .pointer (some ad) ∧ (∀ w2, Ext w w2 → (loadVar t ad).run P w2 = .ok u w2) ∧ k s σ = some r ∧ SlotOk σ st γ w u s := by
    intro ad us cs hv hl hl2 hus hcs hk2
    exact ⟨ad, _, _, hv0.trans hv, fun w2 hx2 => run_loadVar hT hk ad us hl (fun j u hu => hx2.cell (hus j u hu)), hk2, slot_mk (us := us) (fun ha => by rw [hl2]; exact hT.single ha hk) (hl.trans hl2.symm) hcs⟩
  unfold St.loadK at h
  split at h
  · -- memory that is only read
    rename_i cs hs
    rw [hs] at hx
    generalize hu0 : a.eval x = u0 at hx
    cases hx with
    | one _ _ hc =>
      obtain ⟨ad, us, rfl, h1, h2, h3⟩ := cell_rp hc
      · skip
        have hlen : i.cks.length ≤ cs.length ∧ True := by
          have : ∃ cs', (fun cs' => k (S.mk i.agg cs') σ) cs' = some r ∧ cs'.length = i.cks.length ∧ i.cks.length ≤ cs.length ∧ ∀ (j : Nat) (u : Value) (c : C), ((List.range i.cks.length).map us)[j]? = some u → cs'[j]? = some c → Rep st γ w 0 u c (fun _ => False) :=
            shapeRo_ok i.cks cs ((List.range i.cks.length).map us) (by simp) (fun j u c hu hc => by
              rw [List.getElem?_map] at hu
              cases hr : (List.range i.cks.length)[j]? with
              | none => rw [hr] at hu; simp at hu
              | some m =>
                have : m = j := by
                  have := (List.getElem?_eq_some_iff.1 hr)
                  obtain ⟨_, h⟩ := this
                  simpa using h.symm
                subst this
                rw [hr] at hu; simp at hu; subst hu
                exact h3 m c hc) h
          exact ⟨this.choose_spec.2.2.1, trivial⟩
        obtain ⟨cs', hk2, hl2, _, hc2⟩ := shapeRo_ok i.cks cs ((List.range i.cks.length).map us) (by simp) (fun j u c hu hc => by
              rw [List.getElem?_map] at hu
              cases hr : (List.range i.cks.length)[j]? with
              | none => rw [hr] at hu; simp at hu
              | some m =>
                have : m = j := by
                  have := (List.getElem?_eq_some_iff.1 hr)
                  obtain ⟨_, h⟩ := this
                  simpa using h.symm
                subst this
                rw [hr] at hu; simp at hu; subst hu
                exact h3 m c hc) h
        refine hfin ad ((List.range i.cks.length).map us) cs' hu0 (by simp) hl2 (fun j u hu => ?_) (fun j u c hu hc => .rep _ _ (hc2 j u c hu hc).any) hk2
        rw [List.getElem?_map] at hu
        cases hr : (List.range i.cks.length)[j]? with
        | none => rw [hr] at hu; simp at hu
        | some m =>
          obtain ⟨hlt, h⟩ := (List.getElem?_eq_some_iff.1 hr)
          have hm : m = j := by simpa using h.symm
          subst hm
          rw [hr] at hu; simp at hu; subst hu
          have hlt' : m < cs.length := by simp at hlt; omega
          exact h2 m _ (List.getElem?_eq_getElem hlt')
  · rename_i p hs
    rw [hs] at hx
    generalize hu0 : a.eval x = u0 at hx
    cases hx with
    | one _ _ hc =>
      split at h
      · -- a box's cells
        rename_i hsl
        have hst := splitLast_none hsl
        simp only [Option.bind_eq_some_iff] at h
        obtain ⟨b, hb, h⟩ := h
        cases hc with
        | pl _ before s d ad hs2 => rw [hst] at hs2; simp at hs2
        | rep _ _ hr =>
          cases hr with
          | box _ r0 k0 g o0 _ hlt hg =>
            have hcell : ∀ j c, b.cs[k0 + j]? = some c → ∃ u, w.cell? ⟨g, o0 + (k0 + j), none⟩ = some u ∧ Rep st γ w σ.boxes.length u c (fun b => ow b = some (.cell r0 (k0 + j))) := fun j c hj => by
              have hrt : σ.root r0 (k0 + j) = some c := by simp [St.root, hb, hj]
              obtain ⟨u, hu, hr⟩ := R.cells _ _ _ hrt
              simp only [cellV, hg] at hu
              exact ⟨u, hu, hr⟩
            split at h
            · rename_i hle
              replace hle : k0 + i.cks.length ≤ b.cs.length := hle
              obtain ⟨us, hl, hus⟩ := list_of i.cks.length (fun j u => w.cell? ⟨g, o0 + (k0 + j), none⟩ = some u ∧ ∀ c, b.cs[k0 + j]? = some c → Rep st γ w σ.boxes.length u c (fun b => ow b = some (.cell r0 (k0 + j)))) (fun j hj => by
                have hlt : k0 + j < b.cs.length := by omega
                obtain ⟨u, hu, hr⟩ := hcell j _ (List.getElem?_eq_getElem hlt)
                exact ⟨u, hu, fun c hc => by rw [List.getElem?_eq_getElem hlt] at hc; cases hc; exact hr⟩)
              have hadd : ∀ (j : Nat) (u : Value), us[j]? = some u → w.cell? ((⟨g, o0 + k0, none⟩ : Addr).add j) = some u := fun j u hu => by rw [add_lit, Nat.add_assoc]; exact (hus j u hu).1
              split at h
              · rename_i hp
                obtain ⟨cs', hk2, hl2, hc2⟩ := shapePlain_ok (X := fun j b => ow b = some (.cell r0 (k0 + j))) i.cks (b.cs.drop k0) us 0 hp hl (fun j u c hu hc => by
                  rw [List.getElem?_drop] at hc
                  rw [Nat.zero_add]
                  exact (hus j u hu).2 c hc) h
                exact hfin ⟨g, o0 + k0, none⟩ us cs' hu0 hl hl2 hadd (fun j u c hu hc => .rep _ _ (hc2 j u c hu hc)) hk2
              · refine hfin ⟨g, o0 + k0, none⟩ us _ hu0 hl (by rw [viewBox_length]; simp; omega) hadd (fun j u c hu hc => ?_) h
                obtain ⟨d, hd, hc⟩ := viewBox_get _ _ _ _ _ hc
                have hd' : b.cs[k0 + j]? = some d := by
                  rw [List.getElem?_take] at hd
                  split at hd
                  · rw [List.getElem?_drop] at hd; exact hd
                  · cases hd
                have hrt : σ.root r0 (k0 + j) = some d := by simp [St.root, hb, hd']
                rcases hc with ⟨ho, rfl⟩ | ⟨ho, rfl⟩
                · refine .al _ _ d (by simp [St.nodeC, hrt, walkC]) (fun y e => by subst e; simp [C.asOwnB] at ho) ?_
                  simp [placeV, cellV, hg, walkV, (hus j u hu).1]
                · exact .rep _ _ (((hus j u hu).2 _ hd').noown ho)
            · cases h
      · -- an own element's cells
        rename_i before s hsl
        have hst := splitLast_some hsl
        rw [nodeK_eq, Option.bind_eq_some_iff] at h
        obtain ⟨c0, hn, h⟩ := h
        simp only [Option.bind_eq_some_iff] at h
        obtain ⟨x0, hx0, row, hrow, h⟩ := h
        obtain ⟨r0, k0, steps⟩ := p
        simp only at hst hn h
        subst hst
        obtain ⟨g, o0, hA, _, hcells⟩ := R.elemCells hn hx0 hrow
        obtain ⟨us, cs', hk2, hl1, hl2, hu2, hc2⟩ := shapeOwn_ok R hn hx0 hrow hA hcells i.cks s.j h
        cases hc with
        | rep _ _ hr => have := hr.plSteps; simp at this
        | pl _ before' s' d ad hs2 hd2 hx2 ha =>
          rw [hA s.j] at ha
          cases ha
          exact hfin _ us cs' hu0 hl1 hl2 (fun j u hu => by rw [add_lit]; exact hu2 j u hu) hc2 hk2
  · -- a box that is only read
    rename_i r0 k0 ps hs
    rw [hs] at hx
    generalize hu0 : a.eval x = u0 at hx
    cases hx with
    | one _ _ hc =>
    cases hc with
    | rep _ _ hr => cases hr
    | pa _ _ g o0 _ us' h1 hg h3 h4 =>
    simp only [Option.bind_eq_some_iff] at h
    obtain ⟨b, hb, h⟩ := h
    split at h
    · rename_i hle
      have hcell : ∀ j c, b.cs[k0 + j]? = some c → ∃ u, w.cell? ⟨g, o0 + (k0 + j), none⟩ = some u ∧ Rep st γ w σ.boxes.length u c (fun b => ow b = some (.cell r0 (k0 + j))) := fun j c hj => by
        have hrt : σ.root r0 (k0 + j) = some c := by simp [St.root, hb, hj]
        obtain ⟨u, hu, hr⟩ := R.cells _ _ _ hrt
        simp only [cellV, hg] at hu
        exact ⟨u, hu, hr⟩
      obtain ⟨us, hl, hus⟩ := list_of i.cks.length (fun j u => w.cell? ⟨g, o0 + (k0 + j), none⟩ = some u ∧ ∀ c, b.cs[k0 + j]? = some c → Rep st γ w σ.boxes.length u c (fun b => ow b = some (.cell r0 (k0 + j)))) (fun j hj => by
        have hlt : k0 + j < b.cs.length := by omega
        obtain ⟨u, hu, hr⟩ := hcell j _ (List.getElem?_eq_getElem hlt)
        exact ⟨u, hu, fun c hc => by rw [List.getElem?_eq_getElem hlt] at hc; cases hc; exact hr⟩)
      have hadd : ∀ (j : Nat) (u : Value), us[j]? = some u → w.cell? ((⟨g, o0 + k0, none⟩ : Addr).add j) = some u := fun j u hu => by rw [add_lit, Nat.add_assoc]; exact (hus j u hu).1
      refine hfin ⟨g, o0 + k0, none⟩ us _ hu0 hl (by rw [viewPa_length]; simp; omega) hadd (fun j u c hu hc => ?_) h
      obtain ⟨d, hd, hc⟩ := viewPa_get _ _ _ _ hc
      have hd' : b.cs[k0 + j]? = some d := by
        rw [List.getElem?_take] at hd
        split at hd
        · rw [List.getElem?_drop] at hd; exact hd
        · cases hd
      rcases hc with ⟨p, hp, rfl⟩ | rfl
      · obtain ⟨_, _, _, hv⟩ := cell_al (h3 j p hp)
        have e : u = us' j := by
          simp only [placeV, cellV, hg, walkV, (hus j u hu).1, Option.bind_some, Option.some.injEq] at hv
          exact hv
        rw [e]
        exact h4 j p hp
      · have hr := (hus j u hu).2 _ hd'
        cases d with
        | v x => exact .rep _ _ (hr.noown rfl)
        | _ => exact .unk _
    · cases h
  · cases h
theorem done_load {P : Program} {E : Env} (hE : EnvTy P E) {o : Oper} {t : TypeId} {x : Operand} {k : S → St → Option Res} (R : Rel B γ st ow [] σ a.tmps w) (ho : o.op = .load t x)
    (h : (bound E t fun i => σ.loadK i (σ.view x) fun s => k s σ) = some r) : DoneR P B st a w (execOp a.eval o) k r := by
  obtain ⟨ad, u, s, hv, hrun, hk, hs⟩ := load_ok hE R h
  refine ⟨u, s, σ, γ, ow, fun w2 hx2 => ?_, hk, R, hs⟩
  simp only [execOp, ho, Instr.loadAt, hv, Instr.sureAddr, Sem.run_bind, Sem.run_pure, Result.andThen_ok]
  rw [hrun w2 hx2]
  rfl
end
end Go.Proofs.Gh
