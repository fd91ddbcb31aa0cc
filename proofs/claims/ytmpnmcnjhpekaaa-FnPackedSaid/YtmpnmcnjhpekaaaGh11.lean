/- The operations, second part: taking, loading, storing. -/
import Derived.Test.YtmpnmcnjhpekaaaGh10
namespace Go.Proofs.Gh
open Go.RowKit
section
variable {B : Base} {γ : Nat → Bx} {st : Nat → Prop} {ow : Nat → Option Ow} {hand : List (Value × C)} {σ : St} {w : World} {a : Act} {r : Res} {tmps : Array Value}

theorem Rel.nodeV (R : Rel B γ st ow hand σ tmps w) {p : Place} {d : C} (hd : σ.nodeC p = some d) : ∃ v, placeV γ w p = some v := by
  obtain ⟨_, _, v, _, _, _, _, hv, _⟩ := R.node hd
  exact ⟨v, hv⟩
/-- What is told of a cell without the trees. -/
def Pre (n : Nat) (st : Nat → Prop) (γ : Nat → Bx) (w : World) (u : Value) : C → Prop
  | .al p => placeV γ w p = some u
  | .pl p => p.steps = [] → Rep st γ w n u (.pl p) (fun _ => False)
  | .rp _ => True
  | .unk => True
  | .pa _ _ _ => True
  | .wi _ _ _ _ => True
  | c => Rep st γ w n u c (fun _ => False)
theorem CellOk.pre {u : Value} {c : C} (h : CellOk σ st γ w u c) : Pre σ.boxes.length st γ w u c := by
  cases h with
  | unk => trivial
  | rep _ _ h =>
    cases c with
    | al p => cases h
    | pl p => exact fun _ => h
    | rp => trivial
    | unk => trivial
    | pa => trivial
    | wi => trivial
    | _ => exact h
  | al p _ d _ _ hp => exact hp
  | pl p before s d ad hs =>
    intro h0
    simp [hs] at h0
  | rp => trivial
  | pa => trivial
  | wi => trivial
theorem Rel.takeC (R : Rel B γ st ow hand σ tmps w) {u : Value} {c : C} (hc : Pre σ.boxes.length st γ w u c) {k : C → St → Option Res} (h : σ.takeK c k = some r) :
    ∃ c' σ' ow', k c' σ' = some r ∧ Rel B γ st ow' (hand ++ [(u, c')]) σ' tmps w ∧ σ'.boxes.length = σ.boxes.length := by
  unfold St.takeK at h
  split at h
  · rename_i p
    rw [nodeK_eq, Option.bind_eq_some_iff] at h
    obtain ⟨d, hd, h⟩ := h
    have h := reown_some h
    obtain ⟨v, ow', hv, R'⟩ := R.take hd
    rw [show placeV γ w p = some u from hc] at hv
    cases hv
    exact ⟨d, _, ow', h, R', length_put _ _ _⟩
  · rename_i p
    split at h
    · rename_i hs
      obtain ⟨ow', R'⟩ := R.take0 (hc hs)
      exact ⟨_, σ, ow', h, R', rfl⟩
    · cases h
  · cases h
  · cases h
  · cases h
  · cases h
  · cases h
  · rename_i h1 h2 h3 h4 h5 h6 h7
    have : Rep st γ w σ.boxes.length u c (fun _ => False) := by
      cases c with
      | al p => exact absurd rfl (h1 p)
      | pl p => exact absurd rfl (h2 p)
      | rp p => exact absurd rfl (h3 p)
      | unk => exact absurd rfl h4
      | pa r k ps => exact absurd rfl (h5 r k ps)
      | wi p s l h' => exact absurd rfl (h6 p s l h')
      | mp kvs => exact absurd rfl (h7 kvs)
      | _ => exact hc
    obtain ⟨ow', R'⟩ := R.take0 this
    exact ⟨c, σ, ow', h, R', rfl⟩
/-- What is in the hand, told with less. -/
theorem Rel.rehandW {hand' : List (Value × C)} (R : Rel B γ st ow hand σ tmps w) (h : ∀ (i : Nat) (x : Value × C), hand'[i]? = some x → ∃ c, hand[i]? = some (x.1, c) ∧ (x.2 = c ∨ x.2 = c.weak)) : Rel B γ st ow hand' σ tmps w := by
  refine ⟨R.tab, R.size, R.slots, R.cells, R.mem, R.free, fun i x hx => ?_, R.lt, R.stlt, R.chg, R.mine, R.pin⟩
  obtain ⟨c, hc, e⟩ := h i x hx
  have hr := R.hands i _ hc
  rcases e with e | e
  · rw [e]; exact hr
  · rw [e]; exact hr.weak
theorem Rel.takesC : ∀ (cs : List C) (us : List Value) {ow : Nat → Option Ow} {hand : List (Value × C)} {σ : St} {k : List C → St → Option Res}, Rel B γ st ow hand σ tmps w → us.length = cs.length →
    (∀ (i : Nat) (u : Value) (c : C), us[i]? = some u → cs[i]? = some c → Pre σ.boxes.length st γ w u c) → takesK σ cs k = some r →
    ∃ cs' σ' ow', k cs' σ' = some r ∧ Rel B γ st ow' (hand ++ us.zip cs') σ' tmps w ∧ us.length = cs'.length ∧ σ'.boxes.length = σ.boxes.length
  | [], us, ow, hand, σ, k, R, hl, _, h => by
    have : us = [] := List.eq_nil_of_length_eq_zero hl
    subst this
    exact ⟨[], σ, ow, h, by simpa using R, rfl, rfl⟩
  | c :: cs, us, ow, hand, σ, k, R, hl, hc, h => by
    cases us with
    | nil => simp at hl
    | cons u us =>
      unfold takesK at h
      obtain ⟨c', σ1, ow1, h1, R1, hl1⟩ := R.takeC (hc 0 u c rfl rfl) h
      obtain ⟨cs', σ2, ow2, h2, R2, hl2, hb2⟩ := Rel.takesC cs us R1 (by simpa using hl) (fun i u c hu hcs => by rw [hl1]; exact hc (i + 1) u c (by simpa using hu) (by simpa using hcs)) h1
      refine ⟨c'.weak :: cs', σ2, ow2, h2, R2.rehandW fun i x hx => ?_, by simpa using hl2, hb2.trans hl1⟩
      rw [List.zip_cons_cons] at hx
      by_cases hi : i < hand.length
      · rw [List.getElem?_append_left hi] at hx
        exact ⟨x.2, by rw [List.append_assoc, List.getElem?_append_left hi]; exact hx, .inl rfl⟩
      · rw [List.getElem?_append_right (by omega)] at hx
        cases hq : i - hand.length with
        | zero =>
          rw [hq] at hx
          simp only [List.getElem?_cons_zero, Option.some.injEq] at hx
          subst hx
          exact ⟨c', by rw [List.append_assoc, List.getElem?_append_right (by omega), hq]; rfl, .inr rfl⟩
        | succ q =>
          rw [hq] at hx
          exact ⟨x.2, by rw [List.append_assoc, List.getElem?_append_right (by omega), hq]; simpa using hx, .inl rfl⟩
theorem slot_cells {u : Value} {s : S} (h : SlotOk σ st γ w u s) (hs : ∀ ss, s ≠ .tup ss) : ∃ us : List Value, us.length = s.cells.length ∧ (∀ (i : Nat) (u : Value) (c : C), us[i]? = some u → s.cells[i]? = some c → CellOk σ st γ w u c) ∧
    ((∃ c, s = .one c ∧ us = [u]) ∨ (∃ cs, s = .agg cs ∧ u = .agg us.toArray)) := by
  cases h with
  | one _ c h => exact ⟨[u], rfl, fun i v d hv hd => by cases i with | zero => simp [S.cells] at hv hd; subst hv hd; exact h | succ i => simp at hv, .inl ⟨c, rfl, rfl⟩⟩
  | agg us cs hl h => exact ⟨us, hl, h, .inr ⟨cs, rfl, rfl⟩⟩
  | tup us ss => exact absurd rfl (hs ss)

/-! ### Loading -/
theorem asInt_some {k : IntKind} {c : C} {n : Int} (h : c.asInt k = some n) : c = .v (.int k n) := by
  unfold C.asInt at h
  split at h
  · split at h
    · rename_i e; subst e; cases h; rfl
    · cases h
  · cases h
theorem asBool_some {c : C} {b : Bool} (h : c.asBool = some b) : c = .v (.bool b) := by
  unfold C.asBool at h; split at h <;> cases h; rfl
theorem asStr_some {c : C} {b : ByteArray} (h : c.asStr = some b) : c = .v (.string b) := by
  unfold C.asStr at h; split at h <;> cases h; rfl
/-- A cell told by its kind says no more than it did. -/
theorem shapeC_ok {n : Nat} {ck : CK} {c : C} {u : Value} {X : Nat → Prop} (hr : Rep st γ w n u c X) {k : C → Option Res} (h : shapeC ck c k = some r) : ∃ c', k c' = some r ∧ Rep st γ w n u c' X ∧ (ck.plain = true → ∃ x, c' = .v x ∧ c = .v x) := by
  cases ck with
  | int ki =>
    simp only [shapeC, Option.bind_eq_some_iff] at h
    obtain ⟨m, hm, h⟩ := h
    have := asInt_some hm
    subst this
    exact ⟨_, h, hr, fun _ => ⟨_, rfl, rfl⟩⟩
  | bool =>
    simp only [shapeC, Option.bind_eq_some_iff] at h
    obtain ⟨m, hm, h⟩ := h
    have := asBool_some hm
    subst this
    exact ⟨_, h, hr, fun _ => ⟨_, rfl, rfl⟩⟩
  | str =>
    simp only [shapeC, Option.bind_eq_some_iff] at h
    obtain ⟨m, hm, h⟩ := h
    have := asStr_some hm
    subst this
    exact ⟨_, h, hr, fun _ => ⟨_, rfl, rfl⟩⟩
  | sl sz =>
    simp only [shapeC, Option.bind_eq_some_iff] at h
    obtain ⟨es, hes, h⟩ := h
    obtain ⟨nl, rfl⟩ := asRo_some hes
    refine ⟨_, h, ?_, fun h => by simp [CK.plain] at h⟩
    cases hr with
    | nil _ o _ _ _ h1 => exact .nil _ _ _ _ _ (by simp)
    | ro _ a cap _ _ _ us _ h1 h2 h3 h4 h5 h6 h7 => exact .ro _ _ _ _ _ _ us _ (by simp) h2 h3 h4 h5 h6 h7
  | other => exact ⟨c, h, hr, fun h => by simp [CK.plain] at h⟩
theorem shapeRo_ok {n : Nat} : ∀ (cks : List CK) (cs : List C) (us : List Value) {k : List C → Option Res}, cks.length ≤ us.length → (∀ (i : Nat) (u : Value) (c : C), us[i]? = some u → cs[i]? = some c → Rep st γ w n u c (fun _ => False)) → shapeRo cks cs k = some r →
    ∃ cs', k cs' = some r ∧ cs'.length = cks.length ∧ cks.length ≤ cs.length ∧ ∀ (i : Nat) (u : Value) (c : C), us[i]? = some u → cs'[i]? = some c → Rep st γ w n u c (fun _ => False)
  | [], cs, us, k, _, _, h => ⟨[], h, rfl, Nat.zero_le _, fun i u c _ hc => by simp at hc⟩
  | ck :: cks, cs, us, k, hl, hc, h => by
    cases us with
    | nil => simp at hl
    | cons u us =>
      cases cs with
      | nil => simp [shapeRo] at h
      | cons c cs =>
        simp only [shapeRo, List.head?_cons, Option.bind_some, List.tail_cons] at h
        obtain ⟨c', h1, hr, _⟩ := shapeC_ok (hc 0 u c rfl rfl) h
        obtain ⟨cs', h2, hl2, hl3, hc2⟩ := shapeRo_ok cks cs us (by simpa using hl) (fun i u c hu hcs => hc (i + 1) u c (by simpa using hu) (by simpa using hcs)) h1
        refine ⟨c' :: cs', h2, by simpa using hl2, by simpa using hl3, fun i v d hv hd => ?_⟩
        cases i with
        | zero => simp at hv hd; subst hv hd; exact hr
        | succ i => exact hc2 i v d (by simpa using hv) (by simpa using hd)
theorem TyOk.single {P : Program} {t : TypeId} {i : TI} (hT : TyOk P t i) (ha : i.agg = false) (hk : ∀ ts, i.kind ≠ .tuple ts) : i.cks.length = 1 := by
  obtain ⟨d, _, h2, h3⟩ := hT.desc
  rw [ha] at h2
  cases d <;> simp only [aggDesc] at h2 h3 <;> first
    | (cases h2; done)
    | (rw [h3.1]; rfl)
    | (rw [h3.2]; rfl)
    | (obtain ⟨_, n, f, h3, _⟩ := h3; rw [h3]; rfl)
    | exact absurd h3 (hk _)
theorem run_isAgg {P : Program} {t : TypeId} {i : TI} (hT : TyOk P t i) : (isAgg t).run P w = .ok i.agg w := by
  obtain ⟨d, h1, h2, _⟩ := hT.desc
  rw [h2]
  simp only [isAgg, Sem.run_bind, run_underlying h1, Result.andThen_ok]
  cases d <;> rfl
theorem TyOk.size {P : Program} {t : TypeId} {i : TI} (hT : TyOk P t i) (hk : ∀ ts, i.kind ≠ .tuple ts) : (P.info? t).map (·.size) = some i.cks.length := by
  rcases hT.info with ⟨ts, h⟩ | ⟨f, z, h1, h2, _⟩
  · exact absurd h (hk ts)
  · rw [h1]; simp [h2]
theorem run_sizeOf {P : Program} {t : TypeId} {n : Nat} (h : (P.info? t).map (·.size) = some n) : (sizeOf t).run P w = .ok n w := by
  cases hi : P.info? t with
  | none => rw [hi] at h; simp at h
  | some f => rw [hi] at h; simp at h; simp [sizeOf, typeInfo, hi, h]
theorem run_loadVar {P : Program} {t : TypeId} {i : TI} (hT : TyOk P t i) (hk : ∀ ts, i.kind ≠ .tuple ts) (ad : Addr) (us : List Value) (hl : us.length = i.cks.length) (h : ∀ (j : Nat) (u : Value), us[j]? = some u → w.cell? (ad.add j) = some u) :
    (loadVar t ad).run P w = .ok (if i.agg then .agg us.toArray else us.headD undef) w := by
  unfold loadVar
  simp only [Sem.run_bind, run_isAgg hT, Result.andThen_ok]
  cases ha : i.agg with
  | true =>
    simp only [if_true, Sem.run_bind, run_sizeOf (hT.size hk), Result.andThen_ok]
    rw [← hl, run_loadCells_list w ad us h]
    rfl
  | false =>
    have h1 := hT.single ha hk
    simp only [Bool.false_eq_true, if_false]
    cases us with
    | nil => simp [h1] at hl
    | cons u us =>
      have := h 0 u rfl
      simp only [Addr.add, if_true] at this
      simp [load, Sem.run, this]
theorem slot_mk {i : TI} {us : List Value} {cs : List C} (h1 : i.agg = false → cs.length = 1) (hl : us.length = cs.length) (h : ∀ (j : Nat) (u : Value) (c : C), us[j]? = some u → cs[j]? = some c → CellOk σ st γ w u c) :
    SlotOk σ st γ w (if i.agg then .agg us.toArray else us.headD undef) (S.mk i.agg cs) := by
  unfold S.mk
  cases ha : i.agg with
  | true => exact .agg us cs hl h
  | false =>
    have := h1 ha
    match cs, us, this, hl with
    | [c], [u], _, _ => exact .one _ _ (h 0 u c rfl rfl)
end
end Go.Proofs.Gh
