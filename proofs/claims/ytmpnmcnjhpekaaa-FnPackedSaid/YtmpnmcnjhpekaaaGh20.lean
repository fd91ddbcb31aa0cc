/- The operations, all but calls. -/
import Derived.Test.YtmpnmcnjhpekaaaGh49
set_option linter.unusedSimpArgs false
namespace Go.Proofs.Gh
open Go.RowKit
section
variable {B : Base} {γ : Nat → Bx} {st : Nat → Prop} {ow : Nat → Option Ow} {hand : List (Value × C)} {σ : St} {w : World} {a : Act} {r : Res} {tmps : Array Value}

theorem done_field {P : Program} {E : Env} (hE : EnvTy P E) {o : Oper} {t : TypeId} {x : Operand} {f : Nat} {k : S → St → Option Res} (R : Rel B γ st ow [] σ a.tmps w) (ho : o.op = .field t x f)
    (h : (bound E t fun i => match i.kind with
      | .struct parts => (parts[f]?).bind fun q => match σ.view x with
        | .agg xs => if q.2.2 then k (.agg ((xs.drop q.1).take q.2.1)) σ else (xs[q.1]?).bind fun c => k (.one c) σ
        | _ => none
      | _ => none) = some r) : DoneA P B st a w (execOp a.eval o) k r := by
  obtain ⟨i, hi, hk, h⟩ := bound_some h
  have hT := hE t i hi
  split at h
  · rename_i parts hparts
    rw [Option.bind_eq_some_iff] at h
    obtain ⟨q, hq, h⟩ := h
    obtain ⟨_, fs, hd1, _, hd3⟩ := hT.structE hparts
    obtain ⟨fd, ff, h1, h2, h3, h4, h5⟩ := hd3 f q hq
    have hx := R.view x
    split at h
    · rename_i xs hs
      rw [hs] at hx
      generalize hv : a.eval x = v at hx
      cases hx with
      | agg us _ hl hc =>
        obtain ⟨d, hd⟩ := Option.isSome_iff_exists.1 h5
        subst h3
        rw [hd] at h
        have hagg : ∀ w : World, (isAgg fd.type).run P w = .ok (aggDesc (some d)) w := by
          intro w
          simp only [isAgg, Sem.run_bind, run_underlying hd, Result.andThen_ok]
          cases d <;> simp [aggDesc]
        split at h
        · rename_i hag
          have hag : aggDesc (some d) = true := hag
          refine done_of (u := .agg (us.toArray.extract fd.offset (fd.offset + ff.size))) R ?_ h ?_
          · simp [execOp, ho, Instr.field, run_underlying hd1, h1, hv, asAgg, part, hagg, hag, sizeOf, typeInfo, h2]
          · have := SlotOk.agg (σ := σ) (st := st) (γ := γ) (w := w) ((us.drop fd.offset).take ff.size) ((xs.drop fd.offset).take ff.size) (by simp [hl]) (fun i u c hu hcc => by
              rw [List.getElem?_take] at hu hcc
              split at hu
              · rw [if_pos (by assumption)] at hcc
                rw [List.getElem?_drop] at hu hcc
                exact hc _ u c hu hcc
              · cases hu)
            simpa using this
        · rename_i hag
          have hag : aggDesc (some d) = false := by simpa using hag
          rw [Option.bind_eq_some_iff] at h
          obtain ⟨c, hcc, h⟩ := h
          have hlt : fd.offset < us.length := by rw [hl]; exact (List.getElem?_eq_some_iff.1 hcc).1
          refine done_of (u := us[fd.offset]) R ?_ h (.one _ _ (hc _ _ _ (List.getElem?_eq_getElem hlt) hcc))
          simp [execOp, ho, Instr.field, run_underlying hd1, h1, hv, asAgg, part, hagg, hag, hlt]
    · cases h
  · cases h

theorem retypes_ok (R : Rel B γ st ow hand σ a.tmps w) (E : Env) : ∀ (ts : List TypeId) (xs : List Operand) (ss : List S), retypes E ts (xs.map σ.view) = ss → ss.length = xs.length ∧ ∀ (i : Nat) (x : Operand) (s : S), xs[i]? = some x → ss[i]? = some s → SlotOk σ st γ w (a.eval x) s
  | _, [], ss, h => by
    have : ss = [] := by rw [← h]; cases ‹List TypeId› <;> rfl
    subst this; exact ⟨rfl, by simp⟩
  | [], x :: xs, ss, h => by
    simp only [retypes] at h
    subst h
    refine ⟨by simp, fun i y s hy hs => ?_⟩
    rw [List.getElem?_map, hy] at hs
    simp at hs; subst hs; exact R.view y
  | t :: ts, x :: xs, ss, h => by
    simp only [List.map_cons, retypes] at h
    subst h
    obtain ⟨hl, hr⟩ := retypes_ok R E ts xs _ rfl
    refine ⟨by simp [hl], fun i y s hy hs => ?_⟩
    cases i with
    | zero => simp at hy hs; subst hy hs; exact slot_retype E t (R.view x)
    | succ i => exact hr i y s (by simpa using hy) (by simpa using hs)
theorem two {α : Type} {l : List α} (h : l.length = 2) : ∃ x y, l = [x, y] := by
  match l, h with
  | [x, y], _ => exact ⟨x, y, rfl⟩
theorem arr_eq {α : Type} {x : Array α} {l : List α} (h : x.toList = l) : x = l.toArray := by subst h; simp
theorem done_builtin {P : Program} {E : Env} (hE : EnvTy P E) {o : Oper} {c : Call} {b : Builtin} {k : S → St → Option Res} (R : Rel B γ st ow [] σ a.tmps w) (ho : o.op = .call c) (hc : c.callee = .builtin b)
    (h : σ.builtinK E b c.argTypes.toList (retypes E c.argTypes.toList (c.args.toList.map σ.view)) k = some r) : Done P B st a w (execOp a.eval o) k r := by
  obtain ⟨callee, args, ats⟩ := c
  simp only at hc h
  subst hc
  obtain ⟨hl, hs⟩ := retypes_ok R E ats.toList args.toList _ rfl
  generalize hss : retypes E ats.toList (args.toList.map σ.view) = ss at h hl hs
  generalize hts : ats.toList = ts at h hss
  have hts := arr_eq hts
  subst hts
  unfold St.builtinK at h
  split at h
  · have : ∃ y, args.toList = [y] := by
      have : args.toList.length = 1 := by rw [← hl]; rfl
      match args.toList, this with
      | [y], _ => exact ⟨y, rfl⟩
    obtain ⟨y, hy⟩ := this
    have := arr_eq hy
    subst this
    exact (done_len hE R (hs 0 y _ (by simp) rfl) ho h).done
  · obtain ⟨y, z, hy⟩ := two (l := args.toList) (by rw [← hl]; rfl)
    have := arr_eq hy
    subst this
    split at h
    · rename_i e
      subst e
      simp only [List.map_cons, List.map_nil, retypes, List.cons.injEq, and_true] at hss
      obtain ⟨rfl, rfl⟩ := hss
      exact done_append hE R ho h
    · cases h
  · obtain ⟨y, z, hy⟩ := two (l := args.toList) (by rw [← hl]; rfl)
    have := arr_eq hy
    subst this
    split at h
    · rename_i e
      exact (done_minmax (mx := false) R ho (hs 0 y _ (by simp) rfl) (hs 1 z _ (by simp) rfl) e h).done
    · cases h
  · obtain ⟨y, z, hy⟩ := two (l := args.toList) (by rw [← hl]; rfl)
    have := arr_eq hy
    subst this
    split at h
    · rename_i e
      exact (done_minmax (mx := true) R ho (hs 0 y _ (by simp) rfl) (hs 1 z _ (by simp) rfl) e h).done
    · cases h
  · cases h
/-- All operations but calls of functions. -/
theorem opK_sound {P : Program} {E : Env} (hE : EnvTy P E) {o : Oper} {k : S → St → Option Res} (R : Rel B γ st ow [] σ a.tmps w) (hnc : ∀ c f, o.op = .call c → c.callee ≠ .value f)
    (h : opK E σ o k = some r) : Done P B st a w (execOp a.eval o) k r := by
  unfold opK at h
  split at h
  · exact (done_move R (.inl ‹_›) h).done
  · exact (done_move R (.inr ‹_›) h).done
  · exact (done_pick R ‹_› h).done
  · exact (done_alloc hE R ‹_› h).done
  · exact (done_box R ‹_› h).done
  · exact (done_build hE R ‹_› h).done
  · exact (done_buildSlice hE R ‹_› h).done
  · exact (done_load hE R ‹_› h).done
  · exact done_store hE R ‹_› h
  · exact (done_nilCheck R ‹_› h).done
  · exact (done_binOp hE R ‹_› h).done
  · exact (done_unOp R ‹_› h).done
  · exact (done_convert hE R ‹_› h).done
  · exact (done_makeFunc R ‹_› h).done
  · exact (done_makeSlice hE R ‹_› h).done
  · exact (done_slice hE R ‹_› h).done
  · exact (done_fieldAddr hE R ‹_› h).done
  · exact (done_field hE R ‹_› h).done
  · exact (done_indexAddr hE R ‹_› h).done
  · exact (done_index hE R ‹_› h).done
  · exact (done_makeMap R ‹_› h).done
  · exact done_mapUpdate hE R ‹_› h
  · exact done_lookup hE R ‹_› h
  · exact (done_extract R ‹_› h).done
  · rename_i c ho
    split at h
    · exact absurd ‹_› (hnc _ _ ho)
    · exact done_builtin hE R ho ‹_› h
    · cases h
  · cases h
end
end Go.Proofs.Gh
