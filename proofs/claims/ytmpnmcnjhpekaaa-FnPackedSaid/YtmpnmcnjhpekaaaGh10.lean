/- The operations: what the ghost does, the machine does. First part. -/
import Derived.Test.YtmpnmcnjhpekaaaGh9
import Derived.Laws.Cells
namespace Go.Proofs.Gh
open Go.RowKit

/-- A zero cell as a content. -/
def zeroC : CK → Value → C
  | .sl n, .slice none 0 0 => .sl true (some true) n []
  | _, x => constC x
def aggDesc : Option TypeDesc → Bool
  | some (.struct _) => true
  | some (.array _ _) => true
  | _ => false
/-- What is said of a type fits the program's. -/
structure TyOk (P : Program) (t : TypeId) (i : TI) : Prop where
  info : (∃ ts, i.kind = .tuple ts) ∨ ∃ f z, P.info? t = some f ∧ f.size = i.cks.length ∧ f.bytes = i.bytes ∧ 0 < f.bytes ∧ f.zero = some z ∧ z.cells.size = f.size ∧ z.cells.toList.all Value.oneCell' = true ∧ i.zero = (i.cks.zip z.cells.toList).map fun x => zeroC x.1 x.2
  desc : ∃ d, P.underlying t = some d ∧ i.agg = aggDesc (some d) ∧ match d with
    | .int k => i.cks = [.int k] ∧ i.kind = .scalar
    | .bool => i.cks = [.bool] ∧ i.kind = .scalar
    | .string => i.cks = [.str] ∧ i.kind = .scalar
    | .slice e => i.kind = .slice e ∧ ∃ n f, i.cks = [.sl n] ∧ P.info? e = some f ∧ f.size = n
    | .struct fs => ∃ parts, i.kind = .struct parts ∧ parts.length = fs.size ∧ ∀ (k : Nat) (q : Nat × Nat × Bool), parts[k]? = some q → ∃ fd ff, fs[k]? = some fd ∧ P.info? fd.type = some ff ∧ q = (fd.offset, ff.size, aggDesc (P.underlying fd.type)) ∧ ff.size ≠ 0 ∧ (P.underlying fd.type).isSome
    | .array n e => i.kind = .array n e
    | .tuple ts => i.kind = .tuple ts.toList
    | _ => i.kind = .scalar ∧ i.cks = [.other]
  flat : i.flat = true → P.stoodInHeld t = false ∧ P.eqGuardType P.depth t = false ∧ ∃ fs, P.underlying t = some (.struct fs) ∧ fs.size = i.cks.length ∧ ∀ (k : Nat) (fd : Field), fs[k]? = some fd → fd.name ≠ "_" ∧ fd.offset = k ∧ ∃ ck, i.cks[k]? = some ck ∧
    ((∃ ki ki', ck = .int ki' ∧ P.underlying fd.type = some (.int ki)) ∨ (ck = .bool ∧ P.underlying fd.type = some .bool) ∨ (ck = .str ∧ P.underlying fd.type = some .string))
  mapz : ∀ z, i.mapz = some z → z.oneCell' = true ∧ ∃ k e f, P.underlying t = some (.map k e) ∧ P.underlying k = some .string ∧ P.info? e = some f ∧ f.zero = some z

section
variable {B : Base} {γ : Nat → Bx} {st : Nat → Prop} {ow : Nat → Option Ow} {hand : List (Value × C)} {σ : St} {w : World} {a : Act} {r : Res}

/-- One operation: the machine's value, the ghost's. -/
def Done (P : Program) (B : Base) (st : Nat → Prop) (a : Act) (w : World) (x : Sem Next) (k : S → St → Option Res) (r : Res) : Prop :=
  ∃ u s σ' γ' ow' w', (x.run P w = .ok (.value u) w' ∨ (x.run P w = .ok .skip w' ∧ u = undef)) ∧ k s σ' = some r ∧ Rel B γ' st ow' [] σ' a.tmps w' ∧ SlotOk σ' st γ' w' u s

/-- All blocks that are there stay as they are. -/
def Ext (w w' : World) : Prop := ∀ b, b < w.heap.size → w'.heap[b]? = w.heap[b]?
theorem Ext.refl (w : World) : Ext w w := fun _ _ => rfl
theorem Ext.size {w w' : World} (h : Ext w w') : w.heap.size ≤ w'.heap.size := by
  cases hn : w.heap.size with
  | zero => omega
  | succ n =>
    have hlt : n < w.heap.size := by omega
    have := h n hlt
    rw [Array.getElem?_eq_getElem hlt] at this
    have := (Array.getElem?_eq_some_iff.1 this).1
    omega
theorem Ext.trans {w w' w'' : World} (h : Ext w w') (h' : Ext w' w'') : Ext w w'' := fun b hb => (h' b (Nat.lt_of_lt_of_le hb h.size)).trans (h b hb)
theorem Ext.cell {w w' : World} (h : Ext w w') {a : Addr} {u : Value} (hc : w.cell? a = some u) : w'.cell? a = some u := by
  by_cases hb : a.block < w.heap.size
  · rw [World.cell?_of_block (w := w) (h _ hb)]; exact hc
  · exfalso
    have hn : w.heap[a.block]? = none := Array.getElem?_eq_none (Nat.le_of_not_lt hb)
    simp [World.cell?, hn] at hc
theorem ext_alloc (w : World) (o : Obj) : Ext w (w.alloc o) := fun b hb => by
  have e : (w.alloc o).heap = w.heap.push o := rfl
  rw [e]; simp [Array.getElem?_push, Nat.ne_of_lt hb]
/-- One operation after which all that was there is there still. -/
def DoneE (P : Program) (B : Base) (st : Nat → Prop) (a : Act) (w : World) (x : Sem Next) (k : S → St → Option Res) (r : Res) : Prop :=
  ∃ u s σ' γ' ow' w', x.run P w = .ok (.value u) w' ∧ Ext w w' ∧ k s σ' = some r ∧ Rel B γ' st ow' [] σ' a.tmps w' ∧ SlotOk σ' st γ' w' u s
theorem DoneE.done {P : Program} {x : Sem Next} {k : S → St → Option Res} (h : DoneE P B st a w x k r) : Done P B st a w x k r := by
  obtain ⟨u, s, σ', γ', ow', w', h1, _, h2, h3, h4⟩ := h
  exact ⟨u, s, σ', γ', ow', w', .inl h1, h2, h3, h4⟩
/-- One operation that only reads: it comes out alike in every later world. -/
def DoneR (P : Program) (B : Base) (st : Nat → Prop) (a : Act) (w : World) (x : Sem Next) (k : S → St → Option Res) (r : Res) : Prop :=
  ∃ u s σ' γ' ow', (∀ w2, Ext w w2 → x.run P w2 = .ok (.value u) w2) ∧ k s σ' = some r ∧ Rel B γ' st ow' [] σ' a.tmps w ∧ SlotOk σ' st γ' w u s
/-- .. in every world. -/
def DoneA (P : Program) (B : Base) (st : Nat → Prop) (a : Act) (w : World) (x : Sem Next) (k : S → St → Option Res) (r : Res) : Prop :=
  ∃ u s σ' γ' ow', (∀ w2, x.run P w2 = .ok (.value u) w2) ∧ k s σ' = some r ∧ Rel B γ' st ow' [] σ' a.tmps w ∧ SlotOk σ' st γ' w u s
theorem DoneA.reads {P : Program} {x : Sem Next} {k : S → St → Option Res} (h : DoneA P B st a w x k r) : DoneR P B st a w x k r := by
  obtain ⟨u, s, σ', γ', ow', h1, h2, h3, h4⟩ := h
  exact ⟨u, s, σ', γ', ow', fun w2 _ => h1 w2, h2, h3, h4⟩
theorem DoneR.done {P : Program} {x : Sem Next} {k : S → St → Option Res} (h : DoneR P B st a w x k r) : Done P B st a w x k r := by
  obtain ⟨u, s, σ', γ', ow', h1, h2, h3, h4⟩ := h
  exact ⟨u, s, σ', γ', ow', w, .inl (h1 w (Ext.refl w)), h2, h3, h4⟩
theorem DoneA.done {P : Program} {x : Sem Next} {k : S → St → Option Res} (h : DoneA P B st a w x k r) : Done P B st a w x k r := h.reads.done

theorem rep_const (n : Nat) (x : Value) (h : x.oneCell' = true) : Rep st γ w n x (constC x) (fun _ => False) := by
  unfold constC
  split
  · exact .nil _ _ _ _ _ (by simp)
  · exact .ifcNil _ _
  · simp [Value.oneCell'] at h
  · simp [Value.oneCell'] at h
  · exact .v _ _ _ h
theorem cell_const (x : Value) : CellOk σ st γ w x (constC x) := by
  by_cases h : x.oneCell' = true
  · exact .rep _ _ (rep_const _ x h)
  · cases x <;> simp [Value.oneCell'] at h <;> exact .unk _
theorem slot_const (x : Value) : SlotOk σ st γ w x (constS x) := by
  unfold constS
  split
  · rename_i cs
    refine SlotOk.agg cs.toList _ (by simp) fun i u c hu hc => ?_
    rw [List.getElem?_map, hu] at hc
    simp only [Option.map_some, Option.some.injEq] at hc
    subst hc
    exact cell_const u
  · exact .one _ _ (.unk _)
  · exact .one _ _ (cell_const _)
theorem Rel.view (R : Rel B γ st ow hand σ a.tmps w) (x : Operand) : SlotOk σ st γ w (a.eval x) (σ.view x) := by
  cases x with
  | tmp t =>
    simp only [Act.eval, St.view, St.slot, List.getD_eq_getElem?_getD, Array.getD_eq_getD_getElem?]
    by_cases h : t < a.tmps.size
    · have h2 : t < σ.slots.length := by rw [← R.size]; exact h
      rw [Array.getElem?_eq_getElem h, List.getElem?_eq_getElem h2]
      exact R.slots t _ _ (List.getElem?_eq_getElem h2) (Array.getElem?_eq_getElem h)
    · have h2 : σ.slots.length ≤ t := by rw [← R.size]; exact Nat.le_of_not_lt h
      rw [List.getElem?_eq_none h2]
      exact .one _ _ (.unk _)
  | const x => exact slot_const x
  | global g => exact .one _ _ (.unk _)
  | func f =>
    refine .one _ _ (.rep _ _ ?_)
    have := Rep.fn (st := st) (γ := γ) (w := w) σ.boxes.length f [] [] (fun _ => False) rfl (by simp)
    exact this

/-- What owns nothing gets a home only where it is a nil slice. -/
theorem Rel.homeC {tmps : Array Value} (R : Rel B γ st ow hand σ tmps w) {u : Value} {c : C} (hc : CellOk σ st γ w u c) {k : C → St → Option Res} (h : σ.homeC c k = some r) :
    ∃ c' σ' γ' ow', k c' σ' = some r ∧ Rel B γ' st ow' hand σ' tmps w ∧ CellOk σ' st γ' w u c' ∧ (∀ u s, SlotOk σ st γ w u s → SlotOk σ' st γ' w u s) ∧ σ'.slots = σ.slots := by
  unfold St.homeC at h
  split at h
  · rename_i nl sz es
    cases hc with
    | rep _ _ hr =>
      obtain ⟨ow1, R1⟩ := R.take0 hr
      obtain ⟨γ', ow2, R2, h2, h3⟩ := R1.newFree (by simp)
      exact ⟨_, _, γ', ow2, h, R2, h2, h3, rfl⟩
  · rename_i kvs
    cases hc with
    | rep _ _ hr =>
      cases hr with
      | mp _ _ _ _ _ _ h1 => exact h1.elim
  · exact ⟨c, σ, γ, ow, h, R, hc, fun _ _ h => h, rfl⟩
theorem cellOf_slot {u : Value} {c : C} {σ' : St} {γ' : Nat → Bx} (h : ∀ u s, SlotOk σ st γ w u s → SlotOk σ' st γ' w u s) (hc : CellOk σ st γ w u c) : CellOk σ' st γ' w u c := by
  have := h u (.one c) (.one _ _ hc)
  cases this with
  | one _ _ h => exact h
theorem Rel.homesC {tmps : Array Value} : ∀ (cs : List C) {γ : Nat → Bx} {ow : Nat → Option Ow} {σ : St} (us : List Value) {k : List C → St → Option Res}, Rel B γ st ow hand σ tmps w → us.length = cs.length →
    (∀ (i : Nat) (u : Value) (c : C), us[i]? = some u → cs[i]? = some c → CellOk σ st γ w u c) → Gh.homesC σ cs k = some r →
    ∃ cs' σ' γ' ow', k cs' σ' = some r ∧ Rel B γ' st ow' hand σ' tmps w ∧ us.length = cs'.length ∧ (∀ (i : Nat) (u : Value) (c : C), us[i]? = some u → cs'[i]? = some c → CellOk σ' st γ' w u c) ∧ (∀ u s, SlotOk σ st γ w u s → SlotOk σ' st γ' w u s) ∧ σ'.slots = σ.slots
  | [], γ, ow, σ, us, k, R, hl, hc, h => ⟨[], σ, γ, ow, h, R, hl, hc, fun _ _ h => h, rfl⟩
  | c :: cs, γ, ow, σ, us, k, R, hl, hc, h => by
    cases us with
    | nil => simp at hl
    | cons u us =>
      unfold Gh.homesC at h
      obtain ⟨c', σ1, γ1, ow1, h1, R1, hc1, hs1, hsl1⟩ := R.homeC (hc 0 u c rfl rfl) h
      obtain ⟨cs', σ2, γ2, ow2, h2, R2, hl2, hc2, hs2, hsl2⟩ := Rel.homesC cs us R1 (by simpa using hl) (fun i u c hu hcs => cellOf_slot hs1 (hc (i + 1) u c (by simpa using hu) (by simpa using hcs))) h1
      refine ⟨c' :: cs', σ2, γ2, ow2, h2, R2, by simpa using hl2, fun i u c hu hcs => ?_, fun u s h => hs2 u s (hs1 u s h), hsl2.trans hsl1⟩
      cases i with
      | zero => simp only [List.getElem?_cons_zero, Option.some.injEq] at hu hcs; subst hu hcs; exact cellOf_slot hs2 hc1
      | succ i => exact hc2 i u c (by simpa using hu) (by simpa using hcs)
mutual
theorem Rel.homeS {tmps : Array Value} {γ : Nat → Bx} {ow : Nat → Option Ow} {σ : St} {u : Value} (s : S) {k : S → St → Option Res} (R : Rel B γ st ow hand σ tmps w) (hs : SlotOk σ st γ w u s) (h : σ.homeS s k = some r) :
    ∃ s' σ' γ' ow', k s' σ' = some r ∧ Rel B γ' st ow' hand σ' tmps w ∧ SlotOk σ' st γ' w u s' ∧ (∀ u s, SlotOk σ st γ w u s → SlotOk σ' st γ' w u s) ∧ σ'.slots = σ.slots := by
  cases s with
  | one c =>
    simp only [St.homeS] at h
    cases hs with
    | one _ _ hc =>
      obtain ⟨c', σ', γ', ow', h1, R1, hc1, hs1, hsl⟩ := R.homeC hc h
      exact ⟨_, σ', γ', ow', h1, R1, .one _ _ hc1, hs1, hsl⟩
  | agg cs =>
    simp only [St.homeS] at h
    cases hs with
    | agg us _ hl hc =>
      obtain ⟨cs', σ', γ', ow', h1, R1, hl1, hc1, hs1, hsl⟩ := Rel.homesC cs us R hl hc h
      exact ⟨_, σ', γ', ow', h1, R1, .agg us _ hl1 hc1, hs1, hsl⟩
  | tup ss =>
    simp only [St.homeS] at h
    cases hs with
    | tup us _ hl hc =>
      obtain ⟨ss', σ', γ', ow', h1, R1, hl1, hc1, hs1, hsl⟩ := Rel.homesS ss us R hl hc h
      exact ⟨_, σ', γ', ow', h1, R1, .tup us _ hl1 hc1, hs1, hsl⟩
theorem Rel.homesS {tmps : Array Value} {γ : Nat → Bx} {ow : Nat → Option Ow} {σ : St} (ss : List S) (us : List Value) {k : List S → St → Option Res} (R : Rel B γ st ow hand σ tmps w) (hl : us.length = ss.length)
    (hc : ∀ (i : Nat) (u : Value) (s : S), us[i]? = some u → ss[i]? = some s → SlotOk σ st γ w u s) (h : σ.homesS ss k = some r) :
    ∃ ss' σ' γ' ow', k ss' σ' = some r ∧ Rel B γ' st ow' hand σ' tmps w ∧ us.length = ss'.length ∧ (∀ (i : Nat) (u : Value) (s : S), us[i]? = some u → ss'[i]? = some s → SlotOk σ' st γ' w u s) ∧ (∀ u s, SlotOk σ st γ w u s → SlotOk σ' st γ' w u s) ∧ σ'.slots = σ.slots := by
  cases ss with
  | nil =>
    simp only [St.homesS] at h
    exact ⟨[], σ, γ, ow, h, R, hl, hc, fun _ _ h => h, rfl⟩
  | cons s ss =>
    cases us with
    | nil => simp at hl
    | cons u us =>
      simp only [St.homesS] at h
      obtain ⟨s', σ1, γ1, ow1, h1, R1, hc1, hs1, hsl1⟩ := Rel.homeS s R (hc 0 u s rfl rfl) h
      obtain ⟨ss', σ2, γ2, ow2, h2, R2, hl2, hc2, hs2, hsl2⟩ := Rel.homesS ss us R1 (by simpa using hl) (fun i u c hu hcs => hs1 _ _ (hc (i + 1) u c (by simpa using hu) (by simpa using hcs))) h1
      refine ⟨s' :: ss', σ2, γ2, ow2, h2, R2, by simpa using hl2, fun i u c hu hcs => ?_, fun u s h => hs2 u s (hs1 u s h), hsl2.trans hsl1⟩
      cases i with
      | zero => simp only [List.getElem?_cons_zero, Option.some.injEq] at hu hcs; subst hu hcs; exact hs2 _ _ hc1
      | succ i => exact hc2 i u c (by simpa using hu) (by simpa using hcs)
end
theorem slot_retype (E : Env) (t : TypeId) {u : Value} {s : S} (h : SlotOk σ st γ w u s) : SlotOk σ st γ w u (retype E t s) := by
  unfold retype
  split
  · rename_i c
    split
    · rename_i ck _
      unfold retypeC
      split
      · cases h with
        | one _ _ h =>
          cases h with
          | rep _ _ h =>
            cases h with
            | nil _ _ _ _ _ h1 => exact .one _ _ (.rep _ _ (.nil _ _ _ _ _ h1))
            | own _ g o cap sz _ _ us Xs e cur _ h1 => exact absurd rfl h1
      · exact h
    · exact h
  · exact h

theorem done_move {P : Program} {E : Env} {o : Oper} {x : Operand} {k : S → St → Option Res} (R : Rel B γ st ow [] σ a.tmps w) (ho : o.op = .move x ∨ o.op = .assign x) (h : σ.homeS (retype E o.type (σ.view x)) k = some r) :
    DoneA P B st a w (execOp a.eval o) k r := by
  obtain ⟨s', σ', γ', ow', h1, R1, hs1, _, _⟩ := Rel.homeS _ R (slot_retype E o.type (R.view x)) h
  refine ⟨a.eval x, s', σ', γ', ow', fun w2 => ?_, h1, R1, hs1⟩
  rcases ho with ho | ho <;> simp [execOp, ho, Sem.run_pure]
theorem slot_bool {u : Value} {b : Bool} (h : SlotOk σ st γ w u (.one (.v (.bool b)))) : u = .bool b := by
  cases h with
  | one _ _ h =>
    cases h with
    | rep _ _ h => cases h; rfl
theorem slot_v {u x : Value} (h : SlotOk σ st γ w u (.one (.v x))) : u = x := by
  cases h with
  | one _ _ h =>
    cases h with
    | rep _ _ h => cases h; rfl
theorem done_pick {P : Program} {o : Oper} {c x y : Operand} {k : S → St → Option Res} (R : Rel B γ st ow [] σ a.tmps w) (ho : o.op = .pick c x y)
    (h : (match σ.view c with | .one (.v (.bool t)) => bif t then σ.homeS (σ.view x) k else σ.homeS (σ.view y) k | _ => none) = some r) : DoneA P B st a w (execOp a.eval o) k r := by
  split at h
  · rename_i t ht
    have hc := slot_bool (ht ▸ R.view c)
    cases t with
    | true =>
      obtain ⟨s', σ', γ', ow', h1, R1, hs1, _, _⟩ := Rel.homeS _ R (R.view x) h
      exact ⟨a.eval x, s', σ', γ', ow', fun w2 => by simp [execOp, ho, hc, asBool], h1, R1, hs1⟩
    | false =>
      obtain ⟨s', σ', γ', ow', h1, R1, hs1, _, _⟩ := Rel.homeS _ R (R.view y) h
      exact ⟨a.eval y, s', σ', γ', ow', fun w2 => by simp [execOp, ho, hc, asBool], h1, R1, hs1⟩
  · cases h
end
end Go.Proofs.Gh
