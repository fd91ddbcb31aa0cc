/- Regions that draw: what only reads comes first; the rest comes in one order. -/
import Derived.Test.YtmpnmcnjhpekaaaGh37
import Derived.OrdersHeld
import Derived.Tactics
set_option linter.unusedSimpArgs false
namespace Go.Proofs.Gh
open Go
/-- An operation that reads no memory and writes none. -/
def calm (o : Oper) : Bool :=
  match o.op with
  | .move _ => true
  | .assign _ => true
  | .pick _ _ _ => true
  | .build _ _ => true
  | .nilCheck _ => true
  | .binOp _ _ _ _ _ => true
  | .unOp _ _ _ => true
  | .makeFunc _ _ _ => true
  | .slice _ _ _ _ _ => true
  | .fieldAddr _ _ _ => true
  | .field _ _ _ => true
  | .indexAddr _ _ _ => true
  | .index _ _ _ => true
  | .extract _ _ => true
  | .call c => match c.callee with
    | .builtin .len => true
    | .builtin .min => true
    | .builtin .max => true
    | _ => false
  | _ => false
def reads (o : Oper) : Bool := calm o || match o.op with
  | .load _ _ => true
  | .convert _ _ _ => true
  | _ => false

section
variable {P : Program} {E : Env} {B : Base} {γ : Nat → Bx} {st : Nat → Prop} {ow : Nat → Option Ow} {σ : St} {w : World} {a : Act} {r : Res}

theorem builtin_calm (hE : EnvTy P E) {o : Oper} {c : Call} {b : Builtin} {k : S → St → Option Res} (R : Rel B γ st ow [] σ a.tmps w) (ho : o.op = .call c) (hc : c.callee = .builtin b) (hb : b = .len ∨ b = .min ∨ b = .max)
    (h : σ.builtinK E b c.argTypes.toList (retypes E c.argTypes.toList (c.args.toList.map σ.view)) k = some r) : DoneA P B st a w (execOp a.eval o) k r := by
  obtain ⟨callee, args, ats⟩ := c
  simp only at hc h
  subst hc
  obtain ⟨hl, hs⟩ := retypes_ok R E ats.toList args.toList _ rfl
  generalize hss : retypes E ats.toList (args.toList.map σ.view) = ss at h hl hs
  generalize hts : ats.toList = ts at h hss
  have hts := arr_eq hts
  subst hts
  unfold St.builtinK at h
  split at h
  · have : ∃ y, args.toList = [y] := by
      have : args.toList.length = 1 := by rw [← hl]; rfl
      match args.toList, this with
      | [y], _ => exact ⟨y, rfl⟩
    obtain ⟨y, hy⟩ := this
    have := arr_eq hy
    subst this
    exact done_len hE R (hs 0 y _ (by simp) rfl) ho h
  · simp at hb
  · obtain ⟨y, z, hy⟩ := two (l := args.toList) (by rw [← hl]; rfl)
    have := arr_eq hy
    subst this
    split at h
    · rename_i e
      exact done_minmax (mx := false) R ho (hs 0 y _ (by simp) rfl) (hs 1 z _ (by simp) rfl) e h
    · cases h
  · obtain ⟨y, z, hy⟩ := two (l := args.toList) (by rw [← hl]; rfl)
    have := arr_eq hy
    subst this
    split at h
    · rename_i e
      exact done_minmax (mx := true) R ho (hs 0 y _ (by simp) rfl) (hs 1 z _ (by simp) rfl) e h
    · cases h
  · cases h
theorem opK_calm (hE : EnvTy P E) {o : Oper} {k : S → St → Option Res} (R : Rel B γ st ow [] σ a.tmps w) (hc : calm o = true) (h : opK E σ o k = some r) : DoneA P B st a w (execOp a.eval o) k r := by
  unfold opK at h
  unfold calm at hc
  split at h
  · exact done_move R (.inl ‹_›) h
  · exact done_move R (.inr ‹_›) h
  · exact done_pick R ‹_› h
  · rename_i ho; rw [ho] at hc; simp at hc
  · rename_i ho; rw [ho] at hc; simp at hc
  · exact done_build hE R ‹_› h
  · rename_i ho; rw [ho] at hc; simp at hc
  · rename_i ho; rw [ho] at hc; simp at hc
  · rename_i ho; rw [ho] at hc; simp at hc
  · exact done_nilCheck R ‹_› h
  · exact done_binOp hE R ‹_› h
  · exact done_unOp R ‹_› h
  · rename_i ho; rw [ho] at hc; simp at hc
  · exact done_makeFunc R ‹_› h
  · rename_i ho; rw [ho] at hc; simp at hc
  · exact done_slice hE R ‹_› h
  · exact done_fieldAddr hE R ‹_› h
  · exact done_field hE R ‹_› h
  · exact done_indexAddr hE R ‹_› h
  · exact done_index hE R ‹_› h
  · rename_i ho; rw [ho] at hc; simp at hc
  · rename_i ho; rw [ho] at hc; simp at hc
  · rename_i ho; rw [ho] at hc; simp at hc
  · exact done_extract R ‹_› h
  · rename_i c ho
    rw [ho] at hc
    simp only at hc
    split at hc
    · rename_i hcl; rw [hcl] at h; exact builtin_calm hE R ho hcl (.inl rfl) h
    · rename_i hcl; rw [hcl] at h; exact builtin_calm hE R ho hcl (.inr (.inl rfl)) h
    · rename_i hcl; rw [hcl] at h; exact builtin_calm hE R ho hcl (.inr (.inr rfl)) h
    · cases hc
  · cases h
/-- What an operation that reads yields, in which worlds. -/
theorem opK_reads (hE : EnvTy P E) {o : Oper} {k : S → St → Option Res} (R : Rel B γ st ow [] σ a.tmps w) (hc : reads o = true) (h : opK E σ o k = some r) :
    ∃ u s σ' γ' ow', (∀ w2, (calm o = true ∨ Ext w w2) → (execOp a.eval o).run P w2 = .ok (.value u) w2) ∧ k s σ' = some r ∧ Rel B γ' st ow' [] σ' a.tmps w ∧ SlotOk σ' st γ' w u s := by
  by_cases hcal : calm o = true
  · obtain ⟨u, s, σ', γ', ow', h1, h2⟩ := opK_calm hE R hcal h
    exact ⟨u, s, σ', γ', ow', fun w2 _ => h1 w2, h2⟩
  · simp only [reads, hcal, Bool.false_or] at hc
    split at hc
    · rename_i t x ho
      unfold opK at h
      rw [ho] at h
      obtain ⟨u, s, σ', γ', ow', h1, h2⟩ := done_load hE R ho h
      exact ⟨u, s, σ', γ', ow', fun w2 h => h1 w2 (h.resolve_left (by first | exact hcal | simp)), h2⟩
    · rename_i src dst x ho
      unfold opK at h
      rw [ho] at h
      obtain ⟨u, s, σ', γ', ow', h1, h2⟩ := done_convert hE R ho h
      exact ⟨u, s, σ', γ', ow', fun w2 h => h1 w2 (h.resolve_left (by first | exact hcal | simp)), h2⟩
    · cases hc
end

section
variable {P : Program} {ops : Array Oper} {Q : Exit → Act → World → Prop} {md : Region.Mode} {ac : List Nat}

def waitsFor (md : Region.Mode) (ops : Array Oper) (j i : Nat) : Bool :=
  match ops[j]? with
  | some oj => oj.after.any fun e => Region.binds md e && e.on == i
  | none => false
theorem waitsFor_spec {j i : Nat} (h : waitsFor md ops j i = true) : ∃ oj, ops[j]? = some oj ∧ ∃ e ∈ oj.after, Region.binds md e = true ∧ e.on = i := by
  unfold waitsFor at h
  split at h
  · rename_i oj hj
    obtain ⟨e, he, hb⟩ := Array.any_eq_true'.1 h
    simp only [Bool.and_eq_true, beq_iff_eq] at hb
    exact ⟨oj, hj, e, he, hb.1, hb.2⟩
  · cases h
/-- Waits for it, if through others. -/
def waitsDeep (md : Region.Mode) (ops : Array Oper) : Nat → Nat → Nat → Bool
  | 0, _, _ => false
  | n + 1, j, i => match ops[j]? with
    | some oj => oj.after.any fun e => Region.binds md e && (e.on == i || waitsDeep md ops n e.on i)
    | none => false
/-- What is listed has all listed that it waits for. -/
def Closed (md : Region.Mode) (ops : Array Oper) (listed : Array Bool) : Prop :=
  ∀ k ok, ops[k]? = some ok → listed.getD k false = true → ∀ e ∈ ok.after, Region.binds md e = true → listed.getD e.on false = true
theorem waitsDeep_listed {listed : Array Bool} {i : Nat} (hcl : Closed md ops listed) : ∀ (n : Nat) {j : Nat} {oj : Oper}, ops[j]? = some oj → (∀ e ∈ oj.after, Region.binds md e = true → listed.getD e.on false = true) →
    waitsDeep md ops n j i = true → listed.getD i false = true
  | 0, _, _, _, _, h => by simp [waitsDeep] at h
  | n + 1, j, oj, hj, hall, h => by
    simp only [waitsDeep, hj] at h
    obtain ⟨e, he, hb⟩ := Array.any_eq_true'.1 h
    simp only [Bool.and_eq_true, Bool.or_eq_true, beq_iff_eq] at hb
    rcases hb with ⟨hb, rfl | hd⟩
    · exact hall e he hb
    · cases ho : ops[e.on]? with
      | none => cases n <;> simp [waitsDeep, ho] at hd
      | some o2 => exact waitsDeep_listed hcl n ho (hcl e.on o2 ho (hall e he hb)) hd
theorem Closed.set {listed : Array Bool} {j : Nat} (hcl : Closed md ops listed) (hj : j ∈ Region.ready md ops listed) : Closed md ops (listed.setIfInBounds j true) := by
  intro k ok hk hl e he hb
  obtain ⟨hjun, oj, hoj, hall⟩ := mem_ready.1 hj
  by_cases hjk : j = k
  · subst hjk
    have : ok = oj := Option.some.inj (hk.symm.trans hoj)
    subst this
    exact getD_set_true (hall e he hb)
  · rw [getD_set_ne false hjk] at hl
    exact getD_set_true (hcl k ok hk hl e he hb)
theorem getD_both {listed : Array Bool} {i : Nat} (h : listed.getD i true = false) : listed.getD i false = false := by
  rcases Nat.lt_or_ge i listed.size with h' | h'
  · simp [h'] at h ⊢; exact h
  · simp [Array.getElem?_eq_none h'] at h
def calmAt (ops : Array Oper) (i : Nat) : Bool :=
  match ops[i]? with
  | some o => calm o
  | none => false
def storesAt (ops : Array Oper) (i : Nat) : Bool :=
  match ops[i]? with
  | some o => match o.op with
    | .store _ _ _ => true
    | _ => false
  | none => false
/-- A reading that stands in no order to some store: it comes as what acts. -/
def actsAt (ac : List Nat) (md : Region.Mode) (ops : Array Oper) (i : Nat) : Bool :=
  !calmAt ops i && (ac.contains i || (List.range ops.size).any fun j => storesAt ops j && !(waitsDeep md ops ops.size i j || waitsDeep md ops ops.size j i))
def readsAt (ac : List Nat) (md : Region.Mode) (ops : Array Oper) (i : Nat) : Bool :=
  match ops[i]? with
  | some o => reads o && !actsAt ac md ops i
  | none => false
/-- Every other operation waits for this one, or is waited for, or is calm. -/
def lone (ac : List Nat) (md : Region.Mode) (ops : Array Oper) (j : Nat) : Bool :=
  (List.range ops.size).all fun i => i == j || waitsDeep md ops ops.size i j || waitsDeep md ops ops.size j i || calmAt ops i || !readsAt ac md ops i
def wpAnyX (P : Program) (ac : List Nat) (md : Region.Mode) (ops : Array Oper) (Q : Exit → Act → World → Prop) : Nat → Array Bool → Act → World → Prop
  | 0, listed, a, w => Region.ready md ops listed = [] ∧ Q .normal a w
  | fuel + 1, listed, a, w =>
    (Region.ready md ops listed = [] → Q .normal a w) ∧
    ∀ i ∈ Region.ready md ops listed, wpOp P ops Q i (fun a' w' => (Ext w w' ∨ lone ac md ops i = true) ∧ wpAnyX P ac md ops Q fuel (listed.setIfInBounds i true) a' w') a w
theorem wpAny_of_X : ∀ (fuel : Nat) (listed : Array Bool) (a : Act) (w : World), wpAnyX P ac md ops Q fuel listed a w → wpAny P md ops Q fuel listed a w
  | 0, _, _, _, h => h
  | fuel + 1, _, _, _, h => ⟨h.1, fun i hi => wpOp_mono (fun a' w' h' => wpAny_of_X fuel _ a' w' h'.2) (h.2 i hi)⟩
def Later (o : Oper) (w : World) : World → Prop := fun w2 => calm o = true ∨ Ext w w2
theorem Later.refl (o : Oper) (w : World) : Later o w w := .inr (Ext.refl w)
theorem yields_mono {S S' : World → Prop} {o : Oper} {v : Value} {a : Act} (hS : ∀ w, S' w → S w) (h : YieldsIf P ops S o v a) : YieldsIf P ops S' o v a :=
  h.imp (fun ⟨h1, h2⟩ => ⟨h1, fun w hw => h2 w (hS w hw)⟩) id

theorem wpAnyX_first {i : Nat} {oi : Oper} {v : Value} (hi : ops[i]? = some oi) (hrd : readsAt ac md ops i = true) (hsel : ∀ (j : Nat) (o : Oper) cs b, ops[j]? = some o → o.op ≠ .select cs b)
    (hQ : ∀ c a w, Q (.panic c) (a.put oi.dst v) w → Q (.panic c) a w) :
    ∀ (fuel : Nat) (listed : Array Bool) (a : Act) (w : World),
      (∀ j oj, ops[j]? = some oj → j ≠ i → listed.getD j true = false → (∀ e ∈ oj.after, Region.binds md e = true → e.on ≠ i) → oi.apart ops oj = true) →
      Closed md ops listed → i ∈ Region.ready md ops listed → YieldsIf P ops (Later oi w) oi v a →
      wpAnyX P ac md ops Q fuel (listed.setIfInBounds i true) (a.put oi.dst v) w → wpAnyX P ac md ops Q (fuel + 1) listed a w := by
  intro fuel
  induction fuel with
  | zero =>
    intro listed a w _ _ hr hy H
    refine ⟨fun h => (by rw [h] at hr; cases hr), fun j hj => ?_⟩
    by_cases hji : j = i
    · subst hji; exact hy.wpOp hi (Later.refl _ _) ⟨.inl (Ext.refl _), H⟩
    · have := ready_mono hj hji
      rw [H.1] at this
      cases this
  | succ fuel ih =>
    intro listed a w hfree hcl hr hy H
    refine ⟨fun h => (by rw [h] at hr; cases hr), fun j hj => ?_⟩
    by_cases hji : j = i
    · subst hji; exact hy.wpOp hi (Later.refl _ _) ⟨.inl (Ext.refl _), H⟩
    · have h1 := H.2 j (ready_mono hj hji)
      obtain ⟨hjun, oj, hoj, hall⟩ := mem_ready.1 hj
      obtain ⟨hiun, oi', hoi', halli⟩ := mem_ready.1 hr
      have hoo : oi' = oi := Option.some.inj (hoi'.symm.trans hi)
      subst hoo
      have hnot : ∀ e ∈ oj.after, Region.binds md e = true → e.on ≠ i := fun e he hb heq => by
        have h1 := hall e he hb
        rw [heq, getD_both hiun] at h1
        cases h1
      have h2 := wpOp_putIf hoj (hfree j oj hoj hji hjun hnot) (fun cs b => hsel i oi' cs b hi) (fun cs b => hsel j oj cs b hoj) hQ hy h1
      have hfree' : ∀ k ok, ops[k]? = some ok → k ≠ i → (listed.setIfInBounds j true).getD k true = false →
          (∀ e ∈ ok.after, Region.binds md e = true → e.on ≠ i) → oi'.apart ops ok = true := fun k ok hk hki hun hno => by
        refine hfree k ok hk hki ?_ hno
        by_cases hjk : j = k
        · subst hjk; exact hjun
        · rw [getD_set_ne true hjk] at hun; exact hun
      refine wpOp_mono (fun a' w' h3 => ⟨h3.2.1, ih (listed.setIfInBounds j true) a' w' hfree' (hcl.set hj) (ready_mono hr (Ne.symm hji)) (yields_mono (fun x hx => ?_) h3.1) ?_⟩) h2
      · rcases hx with hx | hx
        · exact .inl hx
        · rcases h3.2.1 with he | hl
          · exact .inr (he.trans hx)
          · have hlt : i < ops.size := (Array.getElem?_eq_some_iff.1 hi).1
            have hl := List.all_eq_true.1 hl i (List.mem_range.2 hlt)
            simp only [Bool.or_eq_true, beq_iff_eq] at hl
            rcases hl with (((hl | hl) | hl) | hl) | hl
            · exact absurd hl.symm hji
            · have := waitsDeep_listed hcl _ hi halli hl
              rw [getD_both hjun] at this
              cases this
            · have := waitsDeep_listed hcl _ hoj hall hl
              rw [getD_both hiun] at this
              cases this
            · simp only [calmAt, hi] at hl; exact .inl hl
            · rw [hrd] at hl; cases hl
      · rw [Array.setIfInBounds_comm _ _ hji]
        exact h3.2.2

/-- In which order: what reads comes when it may; what acts comes when nothing else may, or in each order. -/
inductive OT where
  | stop
  | one (i : Nat) (t : OT)
  | alt (i : Nat) (t : OT) (rest : OT)
  | ac (l : List Nat) (t : OT)
/-- Which readings come as what acts. -/
def OT.acl : OT → List Nat
  | .ac l _ => l
  | _ => []
def OT.body : OT → OT
  | .ac _ t => t
  | t => t
def OT.heads : OT → List Nat
  | .stop => []
  | .ac _ _ => []
  | .one i _ => [i]
  | .alt i _ r => i :: r.heads
def OT.depth : OT → Nat
  | .stop => 0
  | .ac _ t => t.depth
  | .one _ t => t.depth + 1
  | .alt _ t r => max (t.depth + 1) r.depth
def canonT (ac : List Nat) (md : Region.Mode) (ops : Array Oper) : OT → Bool → Array Bool → Bool
  | .ac _ _, _, _ => false
  | .stop, alt, listed => !alt && (Region.ready md ops listed).isEmpty
  | .one i t, alt, listed => (alt || if readsAt ac md ops i then (Region.ready md ops listed).contains i && Region.free md ops listed i else decide (Region.ready md ops listed = [i])) && !(alt && readsAt ac md ops i) && canonT ac md ops t false (listed.setIfInBounds i true)
  | .alt i t r, alt, listed => (alt || decide ((OT.alt i t r).heads = Region.ready md ops listed)) && !readsAt ac md ops i && canonT ac md ops t false (listed.setIfInBounds i true) && canonT ac md ops r true listed
def wpT (P : Program) (ac : List Nat) (md : Region.Mode) (ops : Array Oper) (Q : Exit → Act → World → Prop) : OT → Act → World → Prop
  | .ac _ _, _, _ => False
  | .stop, a, w => Q .normal a w
  | .one i t, a, w => ∃ o, ops[i]? = some o ∧
      ((readsAt ac md ops i = true ∧ ∃ v, YieldsIf P ops (Later o w) o v a ∧ wpT P ac md ops Q t (a.put o.dst v) w) ∨
       (readsAt ac md ops i = false ∧ wpOp P ops Q i (fun a' w' => (Ext w w' ∨ lone ac md ops i = true) ∧ wpT P ac md ops Q t a' w') a w))
  | .alt i t r, a, w => (∃ o, ops[i]? = some o ∧
      ((readsAt ac md ops i = true ∧ ∃ v, YieldsIf P ops (Later o w) o v a ∧ wpT P ac md ops Q t (a.put o.dst v) w) ∨
       (readsAt ac md ops i = false ∧ wpOp P ops Q i (fun a' w' => (Ext w w' ∨ lone ac md ops i = true) ∧ wpT P ac md ops Q t a' w') a w))) ∧ wpT P ac md ops Q r a w
theorem wpAnyX_done {listed : Array Bool} {a : Act} {w : World} (hr : Region.ready md ops listed = []) (h : Q .normal a w) : ∀ fuel, wpAnyX P ac md ops Q fuel listed a w
  | 0 => ⟨hr, h⟩
  | _ + 1 => ⟨fun _ => h, by rw [hr]; simp⟩
/-- One of the alternatives. -/
theorem wpT_heads (hs : Region.noSelect ops = true) : ∀ (t : OT) {listed : Array Bool} {a : Act} {w : World} {fuel : Nat}, canonT ac md ops t true listed = true → wpT P ac md ops Q t a w → t.depth ≤ fuel + 1 →
    (∀ t' listed' a' w' , t'.depth + 1 ≤ t.depth → Closed md ops listed' → canonT ac md ops t' false listed' = true → wpT P ac md ops Q t' a' w' → wpAnyX P ac md ops Q fuel listed' a' w') → Closed md ops listed → (∀ i ∈ t.heads, i ∈ Region.ready md ops listed) →
    ∀ i ∈ t.heads, wpOp P ops Q i (fun a' w' => (Ext w w' ∨ lone ac md ops i = true) ∧ wpAnyX P ac md ops Q fuel (listed.setIfInBounds i true) a' w') a w
  | .stop, listed, a, w, fuel, hc, h, hd, ih, hcl, hrd => by intro i hi; cases hi
  | .ac _ _, listed, a, w, fuel, hc, h, hd, ih, hcl, hrd => by intro i hi; cases hi
  | .one i t, listed, a, w, fuel, hc, h, hd, ih, hcl, hrd => by
    intro j hj
    have : j = i := by simpa [OT.heads] using hj
    subst this
    simp only [canonT, Bool.true_or, Bool.true_and, Bool.and_eq_true, Bool.not_eq_true'] at hc
    obtain ⟨o, ho, h⟩ := h
    have hro : readsAt ac md ops j = false := hc.1
    rcases h with ⟨hr, _⟩ | ⟨_, h⟩
    · rw [hro] at hr; cases hr
    · exact wpOp_mono (fun a' w' h' => ⟨h'.1, ih t _ a' w' (by simp [OT.depth]) (hcl.set (hrd _ (by simp [OT.heads]))) hc.2 h'.2⟩) h
  | .alt i t r, listed, a, w, fuel, hc, h, hd, ih, hcl, hrd => by
    intro j hj
    simp only [canonT, Bool.true_or, Bool.true_and, Bool.and_eq_true, Bool.not_eq_true'] at hc
    obtain ⟨⟨hri, hct⟩, hcr⟩ := hc
    rcases List.mem_cons.1 hj with rfl | hj
    · obtain ⟨o, ho, h⟩ := h.1
      have hro : readsAt ac md ops j = false := hri
      rcases h with ⟨hr, _⟩ | ⟨_, h⟩
      · rw [hro] at hr; cases hr
      · exact wpOp_mono (fun a' w' h' => ⟨h'.1, ih t _ a' w' (by simp [OT.depth]; omega) (hcl.set (hrd _ (by simp [OT.heads]))) hct h'.2⟩) h
    · exact wpT_heads hs r hcr h.2 (by simp [OT.depth] at hd; omega) (fun t' l' a' w' h1 => ih t' l' a' w' (by simp [OT.depth]; omega)) hcl (fun i hi => hrd i (by simp [OT.heads, hi])) j hj
theorem wpAnyX_tree (hs : Region.noSelect ops = true) (hQ : ∀ c a d v w, Q (.panic c) (a.put d v) w → Q (.panic c) a w) : ∀ (fuel : Nat) (t : OT) (listed : Array Bool) (a : Act) (w : World), Closed md ops listed → t.depth ≤ fuel → canonT ac md ops t false listed = true → wpT P ac md ops Q t a w → wpAnyX P ac md ops Q fuel listed a w
  | fuel, .stop, listed, a, w, hcl, hd, hc, h => wpAnyX_done (by simpa [canonT] using hc) h fuel
  | _, .ac _ _, _, _, _, _, _, hc, _ => by simp [canonT] at hc
  | 0, .one _ _, _, _, _, _, hd, _, _ => by simp [OT.depth] at hd
  | 0, .alt _ _ _, _, _, _, _, hd, _, _ => by simp [OT.depth] at hd
  | fuel + 1, .one i t, listed, a, w, hcl, hd, hc, h => by
    simp only [canonT, Bool.false_or, Bool.false_and, Bool.not_false, Bool.and_true, Bool.and_eq_true] at hc
    obtain ⟨o, ho, h⟩ := h
    rcases h with ⟨hr, v, hy, h⟩ | ⟨hr, h⟩
    · have hra : readsAt ac md ops i = true := hr
      have hna : actsAt ac md ops i = false := by
        simp only [readsAt, ho, Bool.and_eq_true, Bool.not_eq_true'] at hr
        exact hr.2
      rw [hra] at hc
      simp only [if_true, Bool.and_eq_true] at hc
      refine wpAnyX_first ho hra (Region.noSelect_spec hs) (fun c a w => hQ c a o.dst v w) fuel listed a w (Region.free_spec ho hc.1.2) hcl (by simpa using hc.1.1) hy (wpAnyX_tree hs hQ fuel t _ _ _ (hcl.set (by simpa using hc.1.1)) (by simpa [OT.depth] using hd) hc.2 h)
    · have hra : readsAt ac md ops i = false := hr
      rw [hra] at hc
      simp only [Bool.false_eq_true, if_false, decide_eq_true_eq] at hc
      refine ⟨fun h0 => (by rw [h0] at hc; simp at hc), fun j hj => ?_⟩
      rw [hc.1] at hj
      have : j = i := by simpa using hj
      subst this
      exact wpOp_mono (fun a' w' h' => ⟨h'.1, wpAnyX_tree hs hQ fuel t _ _ _ (hcl.set (by rw [hc.1]; simp)) (by simpa [OT.depth] using hd) hc.2 h'.2⟩) h
  | fuel + 1, .alt i t r, listed, a, w, hcl, hd, hc, h => by
    simp only [canonT, Bool.false_or, Bool.and_eq_true, decide_eq_true_eq] at hc
    obtain ⟨⟨⟨hh, hri⟩, hct⟩, hcr⟩ := hc
    refine ⟨fun h0 => (by rw [h0] at hh; simp [OT.heads] at hh), fun j hj => ?_⟩
    rw [← hh] at hj
    exact wpT_heads hs (.alt i t r) (by simp only [canonT, Bool.true_or, Bool.true_and, Bool.and_eq_true]; exact ⟨⟨hri, hct⟩, hcr⟩) h hd
      (fun t' l' a' w' h1 h0 h2 h3 => wpAnyX_tree hs hQ fuel t' l' a' w' h0 (by omega) h2 h3) hcl (fun i hi => by rw [← hh]; exact hi) j hj
end

/-! ### The ghost in that order -/
open Classical in
/-- Both ways, and alike. -/
noncomputable def both (x y : Option Res) : Option Res := if x = y then x else none
theorem both_self (x : Option Res) : both x x = x := by simp [both]
theorem both_some {x y : Option Res} {r : Res} (h : both x y = some r) : x = some r ∧ y = some r := by
  unfold both at h
  split at h
  · rename_i e; exact ⟨h, e ▸ h⟩
  · cases h
def isAlloc (o : Oper) : Bool :=
  match o.op with
  | .alloc _ => true
  | _ => false
/-- The boxes that a region's new variables get are laid aside when it begins. -/
def St.reserve (σ : St) (n : Nat) : St := { σ with boxes := σ.boxes ++ List.replicate n ⟨true, []⟩ }
def allocAt (E : Env) (t : TypeId) (r : Nat) (σ : St) (k : S → St → Option Res) : Option Res :=
  match σ.boxes[r]? with
  | some ⟨true, []⟩ => bound E t fun i => k (.one (.pl ⟨r, 0, []⟩)) { σ with boxes := σ.boxes.set r ⟨false, i.zero⟩ }
  | _ => none
def opR (E : Env) (r : Nat) (o : Oper) (σ : St) (k : S → St → Option Res) : Option Res :=
  match o.op with
  | .alloc t => allocAt E t r σ k
  | _ => opK E σ o k
def rank (ops : Array Oper) (i : Nat) : Nat := (ops.toList.take i).countP isAlloc
def opX (E : Env) (ac : List Nat) (ops : Array Oper) (base : Nat) (i : Nat) (o : Oper) (σ : St) (k : St → Option Res) : Option Res :=
  if reads o || extOp E σ o || lone ac .any ops i then opR E (base + rank ops i) o σ fun s σ' => k (σ'.assign? o.dst s) else none
def stepK (E : Env) (ac : List Nat) (ops : Array Oper) (base : Nat) (i : Nat) (o : Oper) (σ : St) (k : St → Option Res) : Option Res :=
  match o.guard with
  | none => opX E ac ops base i o σ k
  | some (j, want) => match (ops[j]?).bind (·.dst) with
    | some d => match σ.slot d with
      | .one (.v (.bool b)) =>
        let yes (σ : St) : Option Res := opX E ac ops base i o σ k
        let no (σ : St) : Option Res := k (σ.assign? o.dst (.tup []))
        bif b then (let σ := σ.assign d (.one (.v (.bool true))); bif want then yes σ else no σ)
        else (let σ := σ.assign d (.one (.v (.bool false))); bif want then no σ else yes σ)
      | .tup [] => k (σ.assign? o.dst (.tup []))
      | _ => none
    | none => none
noncomputable def opsT (E : Env) (ac : List Nat) (ops : Array Oper) (base : Nat) : OT → St → (St → Option Res) → Option Res
  | .ac _ _, _, _ => none
  | .stop, σ, k => k σ
  | .one i t, σ, k => (ops[i]?).bind fun o => stepK E ac ops base i o σ fun σ' => opsT E ac ops base t σ' k
  | .alt i t rest, σ, k => both ((ops[i]?).bind fun o => stepK E ac ops base i o σ fun σ' => opsT E ac ops base t σ' k) (opsT E ac ops base rest σ k)
noncomputable def drawK (E : Env) (ops : Array Oper) (t : OT) (σ : St) (k : St → Option Res) : Option Res :=
  opsT E t.acl ops σ.boxes.length t.body (σ.reserve (ops.toList.countP isAlloc)) k
def drawsGood (ops : Array Oper) (t : OT) : Bool := decide (t.body.depth ≤ ops.size) && Region.noSelect ops && canonT t.acl .any ops t.body false (Array.replicate ops.size false)

section
open Go.RowKit
variable {P : Program} {E : Env} {B : Base} {st : Nat → Prop} {a : Act} {r : Res} {w : World} {ac : List Nat}
/-- Boxes that stand for no memory may be moved. -/
theorem Rep.moved {γ γ' : Nat → Bx} {w w' : World} {n m : Nat} {u : Value} {c : C} {X : Nat → Prop} (h : Rep st γ w n u c X) (hn : n ≤ m) (hγ : ∀ r g o, r < n → γ r = .mem g o → γ' r = .mem g o)
    (hw : ∀ b, st b ∨ X b → w'.heap[b]? = w.heap[b]?) : Rep st γ' w' m u c X := by
  induction h generalizing m with
  | unk _ _ _ h1 => exact .unk _ _ _ h1
  | v _ _ _ h1 => exact .v _ _ _ h1
  | nil _ o nl sz _ h1 => exact .nil _ _ _ _ _ h1
  | ro _ a cap sz nl es us _ h1 h2 h3 h4 h5 h6 h7 ih =>
    refine .ro _ _ _ _ _ _ us _ h1 h2 h3 h4 h5 (fun i row j c hi hj => ?_) (fun i row j c hi hj => ih i row j c hi hj (Nat.le_refl 0) (fun r _ _ hr => absurd hr (Nat.not_lt_zero r)) (fun b hb => hw b (hb.imp id (fun h => h.elim))))
    have hne : es ≠ [] := by intro e; subst e; simp at hi
    rw [World.cell?_of_block (w := w) (by rw [add_block]; exact hw _ (.inl (h2 hne)))]
    exact h6 i row j c hi hj
  | own _ g o cap sz nl es us Xs e cur _ h1 h2 h3 h4 h5 h6 h7 h8 h9 h10 h11 h12 ih =>
    exact .own _ _ _ _ _ _ _ us Xs e cur _ h1 h2 ((hw _ (.inr h2)).trans h3) h4 h5 h6 h7 h8 (fun i row j c hi hj => ih i row j c hi hj (Nat.le_refl 0) (fun r _ _ hr => absurd hr (Nat.not_lt_zero r)) (fun b hb => hw b (hb.imp id (h10 i j b)))) h10 h11 h12
  | fn _ f caps us _ h1 h2 ih =>
    exact .fn _ _ _ _ _ h1 (fun i c u hc hu => ih i c u hc hu hn hγ (fun b hb => hw b (hb.imp id (fun h => h.elim))))
  | ifcNil => exact .ifcNil _ _
  | ifc _ t u => exact .ifc _ _ _ _
  | rp _ ad cs us _ h1 h2 h3 ih =>
    refine .rp _ ad cs us _ h1 (fun j c hj => ?_) (fun j c hj => ih j c hj (Nat.le_refl 0) (fun r _ _ hr => absurd hr (Nat.not_lt_zero r)) (fun b hb => hw b (hb.imp id (fun h => h.elim))))
    have hne : cs ≠ [] := by intro e; subst e; simp at hj
    rw [World.cell?_of_block (w := w) (by rw [add_block]; exact hw _ (.inl (h1 hne)))]
    exact h2 j c hj
  | box _ r k g o _ h1 h2 => exact .box _ _ _ _ _ _ (Nat.lt_of_lt_of_le h1 hn) (hγ r g o h1 h2)
  | mp _ g kvs ms clk _ h1 h2 h3 h4 => exact .mp _ g kvs ms clk _ h1 ((hw _ (.inr h1)).trans h2) h3 h4
theorem cellOk_moved {σ σ' : St} {γ γ' : Nat → Bx} {w w' : World} {u : Value} {c : C} {r0 : Nat} (h : CellOk σ st γ w u c) (h0 : ∀ k, σ.root r0 k = none) (hval : ∃ vs, γ r0 = .val vs) (hn : ∀ r k, r ≠ r0 → σ'.root r k = σ.root r k) (hl : σ.boxes.length ≤ σ'.boxes.length) (hγ : ∀ r, r ≠ r0 → r < σ.boxes.length → γ' r = γ r) (hw : Grows w w') (hlt : ∀ b, st b → b < w.heap.size) : CellOk σ' st γ' w' u c := by
  have hne : ∀ p d, σ.nodeC p = some d → p.r ≠ r0 ∧ p.r < σ.boxes.length := fun p d hd => by
    refine ⟨fun e => ?_, nodeC_lt hd⟩
    unfold St.nodeC at hd
    rw [e, h0] at hd
    simp at hd
  have hnode : ∀ p d, σ.nodeC p = some d → σ'.nodeC p = some d := fun p d hd => by
    have := hne p d hd
    unfold St.nodeC at hd ⊢
    rw [hn _ _ this.1]; exact hd
  have hmem : ∀ r g o, r < σ.boxes.length → γ r = .mem g o → γ' r = .mem g o := fun r g o hr hg => by
    by_cases e : r = r0
    · subst e; obtain ⟨vs, hv⟩ := hval; rw [hv] at hg; cases hg
    · rw [hγ r e hr]; exact hg
  induction h with
  | unk => exact .unk _
  | rep _ _ h => exact .rep _ _ (h.moved hl hmem (fun b hb => hb.elim (fun hb => hw b (hlt b hb)) (fun h => h.elim)))
  | al q _ d hd hv hp => exact .al q _ d (hnode _ _ hd) hv (hw.placeV (hγ _ (hne _ _ hd).1 (hne _ _ hd).2) hp)
  | pl q before s d ad hs hd hx ha =>
    refine .pl q before s d ad hs (hnode _ _ hd) hx ?_
    obtain ⟨r, k, steps⟩ := q
    simp only at hs
    subst hs
    exact hw.placeA (hγ _ (hne _ _ hd).1 (hne _ _ hd).2) ha
  | rp ad cs us h1 h2 h3 =>
    exact .rp ad cs us h1 (fun j c hj => hw.cell (h2 j c hj)) (fun j c hj => (h3 j c hj).moved (Nat.le_refl 0) (fun r _ _ hr => absurd hr (Nat.not_lt_zero r)) (fun b hb => hb.elim (fun hb => hw b (hlt b hb)) (fun h => h.elim)))
  | wi q sz l h' len cap ad h1 h2 h3 ih => exact .wi q sz l h' len cap ad ih h2 h3
  | pa r k g o ps us h1 h2 h3 h4 i3 i4 => exact .pa r k g o ps us (Nat.lt_of_lt_of_le h1 hl) (hmem r g o h1 h2) i3 i4
theorem root_append (σ : St) (b : Box) (r k : Nat) : ({ σ with boxes := σ.boxes ++ [b] } : St).root r k = if r = σ.boxes.length then b.cs[k]? else σ.root r k := by
  have : ({ σ with boxes := σ.boxes ++ [b] } : St) = σ.new b.free b.cs := rfl
  rw [this, root_new]
theorem Rel.newEmpty {γ : Nat → Bx} {ow : Nat → Option Ow} {hand : List (Value × C)} {σ : St} {tmps : Array Value} (R : Rel B γ st ow hand σ tmps w) : ∃ γ', Rel B γ' st ow hand { σ with boxes := σ.boxes ++ [⟨true, []⟩] } tmps w := by
  have hγ : ∀ r, r < σ.boxes.length → (fun r => if r = σ.boxes.length then Bx.val [] else γ r) r = γ r := fun r hr => if_neg (by omega)
  have hl : σ.boxes.length ≤ ({ σ with boxes := σ.boxes ++ [⟨true, []⟩] } : St).boxes.length := by simp
  have hrep : ∀ {n u c X}, n ≤ σ.boxes.length → Rep st γ w n u c X → Rep st (fun r => if r = σ.boxes.length then Bx.val [] else γ r) w ({ σ with boxes := σ.boxes ++ [⟨true, []⟩] } : St).boxes.length u c X := fun hn h =>
    h.frame (fun _ h => h) (by omega) (fun r hr => hγ r (by omega)) (fun _ _ => rfl)
  refine ⟨fun r => if r = σ.boxes.length then Bx.val [] else γ r, ?_⟩
  constructor
  · exact R.tab
  · exact R.size
  · intro t s u hs hu
    exact (R.slots t s u hs hu).move fun u c h => h.grow (fun p c h => by
      have hlt := nodeC_lt h
      unfold St.nodeC at h ⊢
      rw [root_append, if_neg (by omega)]; exact h) hl hγ (Grows.refl w) (fun _ h => h) (fun b hb => (R.stlt b hb).1)
  · intro r k c hc
    rw [root_append] at hc
    split at hc
    · simp at hc
    · rename_i e
      obtain ⟨u, hu, hr⟩ := R.cells r k c hc
      exact ⟨u, (Grows.refl w).cellV (hγ r (root_lt hc)) hu, hrep (Nat.le_refl _) hr⟩
  · intro r b g o hb hg
    by_cases e : r = σ.boxes.length
    · simp [e] at hg
    · simp only [if_neg e] at hg
      rcases getElem?_snoc hb with ⟨_, h⟩ | ⟨h, _⟩
      · exact R.mem r b g o h hg
      · exact absurd h e
  · intro r b hb hf
    by_cases e : r = σ.boxes.length
    · exact ⟨[], by simp [e]⟩
    · simp only [if_neg e]
      rcases getElem?_snoc hb with ⟨_, h⟩ | ⟨h, _⟩
      · exact R.free r b h hf
      · exact absurd h e
  · intro i y hy; exact hrep (Nat.le_refl _) (R.hands i y hy)
  · exact R.lt
  · exact R.stlt
  · exact R.chg
  · exact R.mine
  · intro r x hx
    obtain ⟨h1, h2⟩ := R.pin r x hx
    exact ⟨by omega, (hγ r h1).trans h2⟩
theorem Rel.reserve {tmps : Array Value} {hand : List (Value × C)} : ∀ (n : Nat) {γ : Nat → Bx} {ow : Nat → Option Ow} {σ : St}, Rel B γ st ow hand σ tmps w → ∃ γ', Rel B γ' st ow hand (σ.reserve n) tmps w
  | 0, γ, ow, σ, R => ⟨γ, by simpa [St.reserve] using R⟩
  | n + 1, γ, ow, σ, R => by
    obtain ⟨γ1, R1⟩ := R.newEmpty
    obtain ⟨γ2, R2⟩ := Rel.reserve n R1
    refine ⟨γ2, ?_⟩
    simpa [St.reserve, List.replicate_succ] using R2
theorem root_set (σ : St) (r0 : Nat) (b : Box) (r k : Nat) (hr : r ≠ r0) : ({ σ with boxes := σ.boxes.set r0 b } : St).root r k = σ.root r k := by
  unfold St.root
  simp only [List.getElem?_set_ne (Ne.symm hr)]
/-- A new variable gets the box that was laid aside. -/
theorem Rel.settle {γ : Nat → Bx} {ow : Nat → Option Ow} {σ : St} {tmps : Array Value} {hand : List (Value × C)} (R : Rel B γ st ow hand σ tmps w) {r0 : Nat} (hr0 : σ.boxes[r0]? = some ⟨true, []⟩) (us : List Value) (cs : List C) (hl : us.length = cs.length)
    (hz : ∀ (i : Nat) (u : Value) (c : C), us[i]? = some u → cs[i]? = some c → ∀ γ' w', Rep st γ' w' 0 u c (fun _ => False)) (hp : B.pin r0 = none) (e : TypeId) :
    ∃ γ' ow', Rel B γ' st ow' hand { σ with boxes := σ.boxes.set r0 ⟨false, cs⟩ } tmps (w.alloc (.cells us.toArray e)) ∧
      CellOk { σ with boxes := σ.boxes.set r0 ⟨false, cs⟩ } st γ' (w.alloc (.cells us.toArray e)) (.pointer (some ⟨w.heap.size, 0, none⟩)) (.pl ⟨r0, 0, []⟩) := by
  have hlt0 : r0 < σ.boxes.length := (List.getElem?_eq_some_iff.1 hr0).1
  have hgr := Grows.alloc w (.cells us.toArray e)
  have hnew := heap_alloc_new w (.cells us.toArray e)
  have hval := R.free r0 _ hr0 rfl
  have hroot0 : ∀ k, σ.root r0 k = none := fun k => by simp [St.root, hr0]
  have hγ : ∀ r, r ≠ r0 → (fun r => if r = r0 then Bx.mem w.heap.size 0 else γ r) r = γ r := fun r hr => if_neg hr
  have hll : ({ σ with boxes := σ.boxes.set r0 ⟨false, cs⟩ } : St).boxes.length = σ.boxes.length := by simp
  have hmem : ∀ r g o, γ r = .mem g o → (fun r => if r = r0 then Bx.mem w.heap.size 0 else γ r) r = .mem g o := fun r g o hg => by
    by_cases er : r = r0
    · subst er; obtain ⟨vs, hv⟩ := hval; rw [hv] at hg; cases hg
    · rw [hγ r er]; exact hg
  have hrep : ∀ {n u c X}, n ≤ σ.boxes.length → (∀ b, X b → b < w.heap.size) → Rep st γ w n u c X →
      Rep st (fun r => if r = r0 then Bx.mem w.heap.size 0 else γ r) (w.alloc (.cells us.toArray e)) ({ σ with boxes := σ.boxes.set r0 ⟨false, cs⟩ } : St).boxes.length u c X := fun hn hX h =>
    h.moved (by rw [hll]; exact hn) (fun r g o _ hg => hmem r g o hg) (fun b hb => hgr b (hb.elim (fun hb => (R.stlt b hb).1) (hX b)))
  refine ⟨fun r => if r = r0 then Bx.mem w.heap.size 0 else γ r, fun b => if b = w.heap.size then some (.box r0) else ow b, ?_, ?_⟩
  · constructor
    · exact R.tab
    · exact R.size
    · intro t s u hs hu
      exact (R.slots t s u hs hu).move fun u c h => cellOk_moved h hroot0 hval (fun r k hr => root_set σ r0 _ r k hr) (by rw [hll]; exact Nat.le_refl _) (fun r hr _ => hγ r hr) hgr (fun b hb => (R.stlt b hb).1)
    · intro r k c hc
      by_cases er : r = r0
      · subst er
        have hc' : cs[k]? = some c := by
          simp only [St.root, List.getElem?_set_self hlt0, Option.bind_some] at hc
          exact hc
        have hk : k < us.length := by rw [hl]; exact (List.getElem?_eq_some_iff.1 hc').1
        refine ⟨us[k], ?_, ((hz k _ c (List.getElem?_eq_getElem hk) hc' γ _).any).mono fun b hb => hb.elim⟩
        simp only [cellV, if_true]
        rw [cell_of_row _ w.heap.size _ _ e (0, 0) hnew]
        simp [hk]
      · rw [root_set _ _ _ _ _ er] at hc
        obtain ⟨u, hu, hr⟩ := R.cells r k c hc
        refine ⟨u, hgr.cellV (hγ r er) hu, (hrep (Nat.le_refl _) (fun b hb => R.lt b _ hb) hr).mono fun b hb => ?_⟩
        have := R.lt b _ hb
        rw [if_neg (by omega)]; exact hb
    · intro r b g o hb hg
      by_cases er : r = r0
      · subst er
        simp only [if_true, Bx.mem.injEq] at hg
        obtain ⟨rfl, rfl⟩ := hg
        have hbb : b = ⟨false, cs⟩ := by
          simp only [List.getElem?_set_self hlt0] at hb
          simpa using hb.symm
        subst hbb
        refine ⟨rfl, by simp, fun k hk => ⟨frozen_of_row _ _ _ _ e hnew, fun hlt => ?_⟩⟩
        have := R.chg.size
        omega
      · simp only [if_neg er] at hg
        simp only [List.getElem?_set_ne (Ne.symm er)] at hb
        obtain ⟨h1, h2, h3⟩ := R.mem r b g o hb hg
        have hg' := R.lt g _ h2
        refine ⟨h1, by rw [if_neg (by omega)]; exact h2, fun k hk => ⟨?_, (h3 k hk).2⟩⟩
        rw [World.frozen?_of_block (w := w) (hgr g hg')]
        exact (h3 k hk).1
    · intro r b hb hf
      by_cases er : r = r0
      · subst er
        simp only [List.getElem?_set_self hlt0, Option.some.injEq] at hb
        subst hb; simp at hf
      · simp only [List.getElem?_set_ne (Ne.symm er)] at hb
        obtain ⟨vs, hv⟩ := R.free r b hb hf
        exact ⟨vs, by rw [if_neg er]; exact hv⟩
    · intro i y hy
      refine (hrep (Nat.le_refl _) (fun b hb => R.lt b _ hb) (R.hands i y hy)).mono fun b hb => ?_
      have := R.lt b _ hb
      rw [if_neg (by omega)]; exact hb
    · intro b y hy
      simp only [World.alloc, Array.size_push]
      by_cases hb : b = w.heap.size
      · omega
      · rw [if_neg hb] at hy
        have := R.lt b y hy
        omega
    · intro b hb
      obtain ⟨h1, h2⟩ := R.stlt b hb
      refine ⟨by simp only [World.alloc, Array.size_push]; omega, ?_⟩
      rw [if_neg (by omega)]; exact h2
    · exact R.chg.alloc _
    · intro b y hy hb hne
      by_cases hbb : b = w.heap.size
      · subst hbb
        have := R.chg.size
        omega
      · rw [if_neg hbb] at hy
        exact R.mine b y hy hb hne
    · intro r x hx
      obtain ⟨h1, h2⟩ := R.pin r x hx
      have er : r ≠ r0 := fun er => by subst er; rw [hp] at hx; cases hx
      exact ⟨by rw [hll]; exact h1, (hγ r er).trans h2⟩
  · exact .rep _ _ (.box _ r0 0 w.heap.size 0 _ (by rw [hll]; exact hlt0) (by simp))
theorem allocAt_ok (hE : EnvTy P E) {γ : Nat → Bx} {ow : Nat → Option Ow} {σ : St} {o : Oper} {t : TypeId} {r0 : Nat} {k : S → St → Option Res} (R : Rel B γ st ow [] σ a.tmps w) (ho : o.op = .alloc t) (hp : B.pin r0 = none) (h : allocAt E t r0 σ k = some r) : DoneE P B st a w (execOp a.eval o) k r := by
  unfold allocAt at h
  split at h
  · rename_i hr0
    obtain ⟨i, hi, hk, h⟩ := bound_some h
    have hT := hE t i hi
    obtain ⟨f, z, h1, h2, h3, _, h5, h6, h7, h8⟩ := zero_rep (st := st) (γ := γ) (w := w) hT hk
    obtain ⟨γ', ow', R', hc⟩ := R.settle hr0 z.cells.toList i.zero h7.symm (fun j u c hu hc γ' w' => by
      obtain ⟨_, z', _, _, _, _, h5', _, _, h8'⟩ := zero_rep (st := st) (γ := γ') (w := w') hT hk
      rw [h1] at *
      have : z' = z := by simp_all
      subst this
      exact h8' 0 j u c hu hc) hp t
    exact ⟨_, _, _, γ', ow', _, by simp [execOp, ho, Instr.alloc, zeroValue, typeInfo, h1, h5, newVar, newRow], ext_alloc _ _, h, R', .one _ _ hc⟩
  · cases h
theorem opR_wp (hE : EnvTy P E) (hS : EnvSpec P E) {γ : Nat → Bx} {ow : Nat → Option Ow} {σ : St} {o : Oper} {r0 : Nat} {k : S → St → Option Res} {next : Act → World → Prop} {Q : Exit → Act → World → Prop}
    (R : Rel B γ st ow [] σ a.tmps w) (hp : B.pin r0 = none) (h : opR E r0 o σ k = some r)
    (hn : ∀ u s σ' γ' ow' w', (extOp E σ o = true → Ext w w') → k s σ' = some r → Rel B γ' st ow' [] σ' a.tmps w' → SlotOk σ' st γ' w' u s → next (a.put o.dst u) w') : o.wp P a w next Q := by
  unfold opR at h
  split at h
  · rename_i t ho
    obtain ⟨u, s, σ', γ', ow', w', h1, h2, h3, h4, h5⟩ := allocAt_ok hE R ho hp h
    unfold Oper.wp
    rw [h1]
    exact hn u s σ' γ' ow' w' (fun _ => h2) h3 h4 h5
  · exact ops_ext hE hS R h hn
theorem opR_reads {E : Env} {r0 : Nat} {o : Oper} {σ : St} {k : S → St → Option Res} (hr : reads o = true) : opR E r0 o σ k = opK E σ o k := by
  unfold opR
  split
  · rename_i t ho; simp [reads, calm, ho] at hr
  · rfl
theorem stepK_wp {γ : Nat → Bx} {ow : Nat → Option Ow} {σ : St} {ops : Array Oper} {base i : Nat} {o : Oper} {k : St → Option Res} (R : Rel B γ st ow [] σ a.tmps w) (h : stepK E ac ops base i o σ k = some r) :
    ∃ σ', Rel B γ st ow [] σ' a.tmps w ∧ ((Region.wanted o (yielded ops a.tmps) = true ∧ opX E ac ops base i o σ' k = some r) ∨ (Region.wanted o (yielded ops a.tmps) = false ∧ k (σ'.assign? o.dst (.tup [])) = some r)) := by
  unfold stepK at h
  split at h
  · rename_i hg
    exact ⟨σ, R, .inl ⟨by simp [Region.wanted, hg], h⟩⟩
  · rename_i j want hg
    split at h
    · rename_i d hd'
      split at h
      · rename_i b hb
        have hy : yielded ops a.tmps j = some b := by
          unfold yielded
          rw [hd']
          simp only [Option.bind_some]
          rw [R.told hb]
        have hw : Region.wanted o (yielded ops a.tmps) = (b == want) := by
          simp only [Region.wanted, hg, hy]
          cases b <;> cases want <;> rfl
        have R' := R.tell hb
        cases b <;> cases want <;> simp only [cond_true, cond_false] at h
        · exact ⟨_, R', .inl ⟨by rw [hw]; rfl, h⟩⟩
        · exact ⟨_, R', .inr ⟨by rw [hw]; rfl, h⟩⟩
        · exact ⟨_, R', .inr ⟨by rw [hw]; rfl, h⟩⟩
        · exact ⟨_, R', .inl ⟨by rw [hw]; rfl, h⟩⟩
      · rename_i hb
        have hy : yielded ops a.tmps j = none := by
          unfold yielded
          rw [hd']
          simp only [Option.bind_some]
          rw [R.untold hb]
        exact ⟨σ, R, .inr ⟨by simp [Region.wanted, hg, hy], h⟩⟩
      · cases h
    · cases h
theorem opsT_wp (hE : EnvTy P E) (hS : EnvSpec P E) {ops : Array Oper} {base : Nat} (hpin : ∀ j, base ≤ j → B.pin j = none) {Q : Exit → Act → World → Prop} {ds : List Deferred} : ∀ (t : OT) {γ : Nat → Bx} {ow : Nat → Option Ow} {σ : St} {a : Act} {w : World} {k : St → Option Res},
    Rel B γ st ow [] σ a.tmps w → a.defers = ds → opsT E ac ops base t σ k = some r →
    (∀ σ' γ' ow' a' w', k σ' = some r → Rel B γ' st ow' [] σ' a'.tmps w' → a'.defers = ds → Q .normal a' w') → wpT P ac .any ops Q t a w := by
  have step : ∀ {γ : Nat → Bx} {ow : Nat → Option Ow} {σ : St} {a : Act} {w : World} {k : St → Option Res} {i : Nat} {o : Oper} {t : OT}, Rel B γ st ow [] σ a.tmps w → a.defers = ds → ops[i]? = some o → stepK E ac ops base i o σ k = some r →
      (∀ {γ' : Nat → Bx} {ow' : Nat → Option Ow} {σ' : St} {a' : Act} {w' : World}, Rel B γ' st ow' [] σ' a'.tmps w' → a'.defers = ds → k σ' = some r → wpT P ac .any ops Q t a' w') →
      ∃ o, ops[i]? = some o ∧ ((readsAt ac .any ops i = true ∧ ∃ v, YieldsIf P ops (Later o w) o v a ∧ wpT P ac .any ops Q t (a.put o.dst v) w) ∨
       (readsAt ac .any ops i = false ∧ wpOp P ops Q i (fun a' w' => (Ext w w' ∨ lone ac .any ops i = true) ∧ wpT P ac .any ops Q t a' w') a w)) := by
    intro γ ow σ a w k i o t R hd ho h hk
    refine ⟨o, ho, ?_⟩
    obtain ⟨σ', R', hh⟩ := stepK_wp R h
    have hrest : ∀ {γ' ow' σ1 w'} {s : S} {u : Value}, Rel B γ' st ow' [] σ1 a.tmps w' → SlotOk σ1 st γ' w' u s → k (σ1.assign? o.dst s) = some r → wpT P ac .any ops Q t (a.put o.dst u) w' := fun R1 hs h1 =>
      hk (R1.put o.dst hs) (by rw [put_defers]; exact hd) h1
    by_cases hr : reads o = true
    · have hy : ∃ v, YieldsIf P ops (Later o w) o v a ∧ wpT P ac .any ops Q t (a.put o.dst v) w := by
        rcases hh with ⟨hw, h1⟩ | ⟨hw, h1⟩
        · unfold opX at h1
          rw [hr, opR_reads hr] at h1
          simp only [Bool.true_or, if_true] at h1
          obtain ⟨u, s, σ2, γ2, ow2, h2, h3, R2, hs⟩ := opK_reads hE R' hr h1
          exact ⟨u, .inl ⟨hw, h2⟩, hrest R2 hs h3⟩
        · exact ⟨undef, .inr ⟨hw, rfl⟩, hrest R' slot_undef h1⟩
      by_cases hra : readsAt ac .any ops i = true
      · exact .inl ⟨hra, hy⟩
      · obtain ⟨v, hy1, hy2⟩ := hy
        exact .inr ⟨by simpa using hra, hy1.wpOp ho (Later.refl _ _) ⟨.inl (Ext.refl _), hy2⟩⟩
    · have hr : reads o = false := by simpa using hr
      refine .inr ⟨by simp [readsAt, ho, hr], ?_⟩
      unfold wpOp
      simp only [ho]
      rcases hh with ⟨hw, h1⟩ | ⟨hw, h1⟩
      · rw [if_pos hw]
        unfold opX at h1
        rw [hr] at h1
        split at h1
        · rename_i hc
          simp only [Bool.false_or, Bool.or_eq_true] at hc
          refine .inl (opR_wp hE hS R' (hpin _ (by omega)) h1 fun u s σ2 γ2 ow2 w2 hx hk R2 hs => ⟨?_, hrest R2 hs hk⟩)
          exact hc.imp hx id
        · cases h1
      · rw [if_neg (by rw [hw]; simp)]
        exact ⟨.inl (Ext.refl _), hrest R' slot_undef h1⟩
  intro t
  induction t with
  | stop => intro γ ow σ a w k R hd h hQ; exact hQ _ _ _ _ _ h R hd
  | ac l t _ => intro γ ow σ a w k R hd h hQ; simp [opsT] at h
  | one i t ih =>
    intro γ ow σ a w k R hd h hQ
    simp only [opsT, Option.bind_eq_some_iff] at h
    obtain ⟨o, ho, h⟩ := h
    exact step R hd ho h fun R' hd' h' => ih R' hd' h' hQ
  | alt i t rest ih ihr =>
    intro γ ow σ a w k R hd h hQ
    simp only [opsT] at h
    obtain ⟨h1, h2⟩ := both_some h
    rw [Option.bind_eq_some_iff] at h1
    obtain ⟨o, ho, h1⟩ := h1
    exact ⟨step R hd ho h1 fun R' hd' h' => ih R' hd' h' hQ, ihr R hd h2 hQ⟩
/-- A region that draws. -/
theorem draw_wp (hm : P.follows .mixedOrders = true) (hE : EnvTy P E) (hS : EnvSpec P E) {γ : Nat → Bx} {ow : Nat → Option Ow} {σ : St} {a : Act} {w : World} {id : Nat} {ops : Array Oper} {t : OT} {k : St → Option Res} {Q : Exit → Act → World → Prop} (hg : drawsGood ops t = true)
    (R : Rel B γ st ow [] σ a.tmps w) (h : drawK E ops t σ k = some r)
    (hQ : ∀ σ' γ' ow' a' w', k σ' = some r → Rel B γ' st ow' [] σ' a'.tmps w' → a'.defers = a.defers → Q .normal a' w') : (Code.region id ops true).wp P Q a w := by
  simp only [drawsGood, Bool.and_eq_true, decide_eq_true_eq] at hg
  refine Code.wp_mono (Q := fun e a w => e = .normal ∧ Q .normal a w) (fun e a w h => by obtain ⟨rfl, h⟩ := h; exact h) ?_
  refine wp_region_any hm (wpAny_of_X (ac := t.acl) _ _ _ _ ?_)
  have hpin : ∀ j, σ.boxes.length ≤ j → B.pin j = none := fun j hj => by
    cases hx : B.pin j with
    | none => rfl
    | some x => have := (R.pin j x hx).1; omega
  obtain ⟨γ1, R1⟩ := Rel.reserve (ops.toList.countP isAlloc) R.drew
  exact wpAnyX_tree hg.1.2 (fun c a d v w h => by simp at h) ops.size t.body _ _ _ (fun k ok hk hl => absurd hl (by rw [Array.getD_eq_getD_getElem?, Array.getElem?_replicate]; split <;> simp)) hg.1.1 hg.2 (opsT_wp hE hS hpin t.body R1 rfl h fun σ' γ' ow' a' w' h1 h2 h3 => ⟨rfl, hQ _ _ _ _ _ h1 h2 h3⟩)
end
end Go.Proofs.Gh
