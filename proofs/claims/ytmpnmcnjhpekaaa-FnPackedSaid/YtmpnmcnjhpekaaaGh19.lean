/- The operations, tenth part. -/
import Derived.Test.YtmpnmcnjhpekaaaGh18
set_option linter.unusedSimpArgs false
namespace Go.Proofs.Gh
open Go.RowKit
section
variable {B : Base} {γ : Nat → Bx} {st : Nat → Prop} {ow : Nat → Option Ow} {hand : List (Value × C)} {σ : St} {w : World} {a : Act} {r : Res} {tmps : Array Value}

theorem capt_rep {u : Value} {c : C} (h : CellOk σ st γ w u c) (hc : c.capt = true) : Rep st γ w σ.boxes.length u c (fun _ => False) := by
  cases h with
  | unk => simp [C.capt] at hc
  | rep _ _ h => exact h
  | al => simp [C.capt] at hc
  | pl p before s d ad hs => simp [C.capt, hs] at hc
  | rp => simp [C.capt] at hc
  | pa => simp [C.capt] at hc
  | wi => simp [C.capt] at hc
theorem capsC_ok (R : Rel B γ st ow hand σ a.tmps w) : ∀ (xs : List Operand) (cs : List C), capsC (xs.map σ.view) = some cs → (xs.map a.eval).length = cs.length ∧ ∀ (i : Nat) (c : C) (u : Value), cs[i]? = some c → (xs.map a.eval)[i]? = some u → Rep st γ w σ.boxes.length u c (fun _ => False)
  | [], cs, h => by simp [capsC] at h; subst h; exact ⟨rfl, by simp⟩
  | x :: xs, cs, h => by
    have hx := R.view x
    simp only [List.map_cons] at h
    unfold capsC at h
    split at h
    · rename_i heq; cases heq
    · rename_i c ss heq
      simp only [List.cons.injEq] at heq
      obtain ⟨h1, rfl⟩ := heq
      rw [h1] at hx
      split at h
      · rename_i hcap
        rw [Option.map_eq_some_iff] at h
        obtain ⟨cs', hcs, rfl⟩ := h
        obtain ⟨hl, hrest⟩ := capsC_ok R xs cs' hcs
        refine ⟨by simp at hl ⊢; exact hl, fun i d u hd hu => ?_⟩
        cases i with
        | zero => simp at hd hu; subst hd hu; exact capt_rep (slot_one hx) hcap
        | succ i => exact hrest i d u (by simpa using hd) (by simpa using hu)
      · cases h
    · cases h
theorem done_makeFunc {P : Program} {o : Oper} {f : FuncId} {first caps : Array Operand} {k : S → St → Option Res} (R : Rel B γ st ow [] σ a.tmps w) (ho : o.op = .makeFunc (.func f) first caps)
    (h : (if first.isEmpty then (capsC (caps.toList.map σ.view)).bind fun cs => k (.one (.fn f cs)) σ else none) = some r) : DoneA P B st a w (execOp a.eval o) k r := by
  split at h
  · rename_i hf
    rw [Option.bind_eq_some_iff] at h
    obtain ⟨cs, hcs, h⟩ := h
    obtain ⟨hl, hr⟩ := capsC_ok R caps.toList cs hcs
    have hf' : first = #[] := by simpa using hf
    refine done_of (u := .func (.func f) #[] (caps.map a.eval)) R ?_ h (.one _ _ (.rep _ _ (by rw [show caps.map a.eval = (caps.toList.map a.eval).toArray by apply Array.ext'; simp]; exact .fn _ _ _ _ _ hl hr)))
    simp [execOp, ho, hf', Instr.makeFunc]
  · cases h
theorem done_minmax {P : Program} {o : Oper} {x y : Operand} {ts : Array TypeId} {mx : Bool} {k : S → St → Option Res} (R : Rel B γ st ow [] σ a.tmps w) (ho : o.op = .call { callee := .builtin (if mx then .max else .min), args := #[x, y], argTypes := ts })
    {ki ki' : IntKind} {n m : Int} (hx : SlotOk σ st γ w (a.eval x) (.one (.v (.int ki n)))) (hy : SlotOk σ st γ w (a.eval y) (.one (.v (.int ki' m)))) (hk : ki = ki')
    (h : k (.one (.v (.int ki (if mx then (if m > n then m else n) else (if m < n then m else n))))) σ = some r) : DoneA P B st a w (execOp a.eval o) k r := by
  subst hk
  have e1 := slot_v hx
  have e2 := slot_v hy
  refine done_of R ?_ h (slotV _ rfl)
  cases mx <;> simp [execOp, ho, resolve, invoke, builtin, Builtin.min_, Builtin.max_, e1, e2, Builtin.min2, Builtin.max2]
theorem fold_set : ∀ (l : List Value) (off j0 : Nat) (cells : Array Value), off + j0 + l.length ≤ cells.size → ((l.zipIdx j0).foldl (fun cs (x : Value × Nat) => cs.setIfInBounds (off + x.2) x.1) cells).size = cells.size ∧
    ∀ k, ((l.zipIdx j0).foldl (fun cs (x : Value × Nat) => cs.setIfInBounds (off + x.2) x.1) cells)[k]? = if off + j0 ≤ k ∧ k < off + j0 + l.length then l[k - (off + j0)]? else cells[k]?
  | [], off, j0, cells, _ => ⟨rfl, fun k => by rw [if_neg (fun hh => by have := hh.2; simp at this; omega)]; simp⟩
  | v :: l, off, j0, cells, h => by
    simp only [List.zipIdx_cons, List.foldl_cons]
    obtain ⟨h1, h2⟩ := fold_set l off (j0 + 1) (cells.setIfInBounds (off + j0) v) (by simp at h ⊢; omega)
    refine ⟨by rw [h1]; simp, fun k => ?_⟩
    rw [h2 k]
    simp only [List.length_cons] at h ⊢
    by_cases hk : off + (j0 + 1) ≤ k ∧ k < off + (j0 + 1) + l.length
    · rw [if_pos hk, if_pos (by omega), show k - (off + j0) = (k - (off + (j0 + 1))) + 1 by omega, List.getElem?_cons_succ]
    · rw [if_neg hk]
      by_cases he : k = off + j0
      · subst he
        have hlt : off + j0 < cells.size := by omega
        rw [if_pos (by omega)]
        simp [hlt]
      · rw [if_neg (by omega), Array.getElem?_setIfInBounds_ne (by omega)]
/-- The parts of a struct, laid over its zero value. -/
theorem buildS_ok {E : Env} (R : Rel B γ st ow hand σ a.tmps w) {parts : List (Nat × Nat × Bool)} {place : Nat → Option (Nat × Nat)} (hpl : ∀ (k : Nat) (q : Nat × Nat × Bool), parts[k]? = some q → place k = some (q.1, q.2.1)) :
    ∀ (ps : List (Nat × Operand)) (zero cs : List C) (cells : Array Value), cells.size = zero.length → (∀ (i : Nat) (u : Value) (c : C), cells[i]? = some u → zero[i]? = some c → CellOk σ st γ w u c) → buildS E σ parts zero ps = some cs →
    ∃ cells', Instr.fill place cells (ps.map fun x => (x.1, a.eval x.2)) = some cells' ∧ cells'.size = cs.length ∧ ∀ (i : Nat) (u : Value) (c : C), cells'[i]? = some u → cs[i]? = some c → CellOk σ st γ w u c
  | [], zero, cs, cells, hsz, hc, h => by
    simp [buildS] at h; subst h
    exact ⟨cells, rfl, hsz, hc⟩
  | (i, x) :: ps, zero, cs, cells, hsz, hc, h => by
    simp only [buildS] at h
    split at h
    · rename_i off n b hpi
      split at h
      · rename_i hcond
        obtain ⟨hn, htup, hoff, htold⟩ := hcond
        obtain ⟨us, hl, hus, hval⟩ := slot_cells (R.view x) (fun ss e => by rw [e] at htup; simp [S.isTup] at htup)
        have hone : (a.eval x).cells = us.toArray := by
          rcases hval with ⟨c, hs, rfl⟩ | ⟨cs', _, hv⟩
          · have hx := hus 0 (a.eval x) c rfl (by rw [hs]; rfl)
            have ht : c.told = true := by rw [hs] at htold; simpa [S.cells] using htold
            generalize a.eval x = u at hx
            cases hx with
            | unk => simp [C.told] at ht
            | rep _ _ hr => have := hr.one; cases u <;> first | rfl | simp [Value.oneCell'] at this
            | al p _ d _ _ hp =>
              have hu : u.oneCell' = true := by
                rename_i hd _
                obtain ⟨_, _, v, _, _, _, _, hv, hr, _⟩ := R.node hd
                rw [hp] at hv; cases hv
                exact hr.one
              cases u <;> first | rfl | simp [Value.oneCell'] at hu
            | pl => rfl
            | rp => rfl
            | pa => rfl
            | wi => rfl
          · rw [hv]; rfl
        have hlus : us.length = n := by rw [hl, hn]
        have hbound : off + 0 + us.length ≤ cells.size := by omega
        obtain ⟨hsz2, hget⟩ := fold_set us off 0 cells hbound
        have hov : (overlay zero off (σ.view x).cells).length = zero.length := by unfold overlay; simp; omega
        have hget2 : ∀ k, (overlay zero off (σ.view x).cells)[k]? = if off ≤ k ∧ k < off + n then (σ.view x).cells[k - off]? else zero[k]? := fun k => by
          unfold overlay
          by_cases h1 : k < off
          · rw [if_neg (by omega), List.append_assoc, List.getElem?_append_left (by simp; omega), List.getElem?_take_of_lt h1]
          · by_cases h2 : k < off + n
            · rw [if_pos (by omega), List.getElem?_append_left (by simp; omega), List.getElem?_append_right (by simp; omega)]
              congr 1; simp; omega
            · rw [if_neg (by omega), List.getElem?_append_right (by simp; omega), List.getElem?_drop]
              congr 1; simp; omega
        obtain ⟨cells', hf, h3, h4⟩ := buildS_ok R hpl ps _ cs ((us.zipIdx 0).foldl (fun cs (x : Value × Nat) => cs.setIfInBounds (off + x.2) x.1) cells) (by rw [hsz2, hov, hsz]) (fun k u c hu hcc => by
          rw [hget k] at hu
          rw [hget2 k] at hcc
          simp only [Nat.add_zero, hlus] at hu
          by_cases hk : off ≤ k ∧ k < off + n
          · rw [if_pos hk] at hu hcc
            exact hus _ u c hu hcc
          · rw [if_neg hk] at hu hcc
            exact hc k u c hu hcc) h
        refine ⟨cells', ?_, h3, h4⟩
        have hplace := hpl i _ hpi
        simp only [List.map_cons, Instr.fill, hplace]
        rw [hone]
        have hcond1 : ¬ ((us.toArray.size ≠ n || decide (off + us.toArray.size > cells.size)) = true) := by
          simp [hlus]; omega
        rw [if_neg hcond1, ← Array.foldl_toList]
        simpa using hf
      · cases h
    · cases h
theorem places_run {P : Program} : ∀ (l : List Field), (∀ (j : Nat) (hj : j < l.length), ∃ ff, P.info? l[j].type = some ff) →
    ∃ ys, (∀ w : World, (l.mapM fun f => Prod.mk f.offset <$> sizeOf f.type : Sem (List (Nat × Nat))).run P w = .ok ys w) ∧ ys.length = l.length ∧ ∀ (k : Nat) (fd : Field) (ff : TypeInfo), l[k]? = some fd → P.info? fd.type = some ff → ys[k]? = some (fd.offset, ff.size)
  | [], _ => ⟨[], by simp, rfl, by simp⟩
  | f :: l, h => by
    obtain ⟨ff, hf⟩ := h 0 (by simp)
    obtain ⟨ys, h1, h2, h3⟩ := places_run l (fun j hj => h (j + 1) (by simp; omega))
    refine ⟨(f.offset, ff.size) :: ys, fun w => ?_, by simp [h2], fun k fd g hk hg => ?_⟩
    · simp at hf
      simp [List.mapM_cons, sizeOf, typeInfo, hf] at h1 ⊢
      simp [h1]
    · cases k with
      | zero => simp at hk hf; subst hk; rw [hg] at hf; cases hf; rfl
      | succ k => exact h3 k fd g (by simpa using hk) hg
theorem done_build {P : Program} {E : Env} (hE : EnvTy P E) {o : Oper} {t : TypeId} {ps : Array (Nat × Operand)} {k : S → St → Option Res} (R : Rel B γ st ow [] σ a.tmps w) (ho : o.op = .build t ps)
    (h : (bound E t fun i => match i.kind with
      | .struct parts => (buildS E σ parts i.zero ps.toList).bind fun cs => σ.homeS (.agg cs) k
      | .array n e => bound E e fun ie => (buildS E σ (arrParts ie.cks.length ie.agg n) i.zero ps.toList).bind fun cs => σ.homeS (.agg cs) k
      | _ => none) = some r) : DoneA P B st a w (execOp a.eval o) k r := by
  obtain ⟨i, hi, hk, h⟩ := bound_some h
  have hT := hE t i hi
  split at h
  · rename_i parts hparts
    rw [Option.bind_eq_some_iff] at h
    obtain ⟨cs, hcs, h⟩ := h
    obtain ⟨_, fs, hd, hlen, hfs⟩ := hT.structE hparts
    obtain ⟨f, z, h1, h2, h3, h4, h5, h6, h7, h8⟩ := zero_rep (st := st) (γ := γ) (w := w) hT hk
    obtain ⟨ys, hys, hyl, hyg⟩ := places_run (P := P) fs.toList (fun j hj => by
      have hj' : j < parts.length := by rw [hlen]; simpa using hj
      obtain ⟨fd, ff, hh1, hh2, _⟩ := hfs j parts[j] (List.getElem?_eq_getElem hj')
      have : fs.toList[j] = fd := by
        rw [Array.getElem?_eq_some_iff] at hh1
        obtain ⟨_, e⟩ := hh1
        simpa using e
      exact ⟨ff, by rw [this]; exact hh2⟩)
    obtain ⟨cells', hf, hcl, hcg⟩ := buildS_ok (place := (ys.toArray[·]?)) R (fun j q hq => by
      obtain ⟨fd, ff, hh1, hh2, hh3, _⟩ := hfs j q hq
      show ys.toArray[j]? = _
      rw [List.getElem?_toArray, hyg j fd ff (by simpa using hh1) hh2, hh3]) ps.toList i.zero cs z.cells (by rw [h7]; simp) (fun j u c hu hc => .rep _ _ (h8 _ j u c (by simpa using hu) hc)) hcs
    obtain ⟨s', σ', γ', ow', e1, R1, hs1, _, _⟩ := Rel.homeS (u := .agg cells') (.agg cs) R (by
      have := SlotOk.agg (σ := σ) (st := st) (γ := γ) (w := w) cells'.toList cs (by simpa using hcl) (fun j u c hu hc => hcg j u c (by simpa using hu) hc)
      simpa using this) h
    refine ⟨_, s', σ', γ', ow', fun w2 => ?_, e1, R1, hs1⟩
    simp only [List.getElem?_toArray] at hf
    simp [execOp, ho, Instr.build, zeroValue, typeInfo, h1, h5, run_underlying hd, Array.mapM_eq_mapM_toList, hys, hf]
  · rename_i m e hkind
    obtain ⟨ie, hie, hke, hq⟩ := bound_some h
    clear h
    have hTe := hE e ie hie
    have hd := hT.arrayE hkind
    rw [Option.bind_eq_some_iff] at hq
    obtain ⟨cs, hcs, hq⟩ := hq
    obtain ⟨f, z, h1, h2, h3, h4, h5, h6, h7, h8⟩ := zero_rep (st := st) (γ := γ) (w := w) hT hk
    obtain ⟨cells', hf, hcl, hcg⟩ := buildS_ok (place := fun i => some (i * ie.cks.length, ie.cks.length)) R (fun j q hq => by
      simp only [arrParts, List.getElem?_map, Option.map_eq_some_iff] at hq
      obtain ⟨j', hj', rfl⟩ := hq
      have := List.getElem?_eq_some_iff.1 hj'
      obtain ⟨_, e⟩ := this
      simp only [List.getElem_range] at e
      subst e
      rfl) ps.toList i.zero cs z.cells (by rw [h7]; simp) (fun j u c hu hc => .rep _ _ (h8 _ j u c (by simpa using hu) hc)) hcs
    obtain ⟨s', σ', γ', ow', e1, R1, hs1, _, _⟩ := Rel.homeS (u := .agg cells') (.agg cs) R (by
      have := SlotOk.agg (σ := σ) (st := st) (γ := γ) (w := w) cells'.toList cs (by simpa using hcl) (fun j u c hu hc => hcg j u c (by simpa using hu) hc)
      simpa using this) hq
    refine ⟨_, s', σ', γ', ow', fun w2 => ?_, e1, R1, hs1⟩
    have hsz := hTe.size hke
    cases hif : P.info? e with
    | none => rw [hif] at hsz; simp at hsz
    | some fe =>
      rw [hif] at hsz
      simp only [Option.map_some, Option.some.injEq] at hsz
      rw [← hsz] at hf
      simp [execOp, ho, Instr.build, zeroValue, typeInfo, h1, h5, run_underlying hd, sizeOf, hif, hf]
  · cases h
end
end Go.Proofs.Gh
