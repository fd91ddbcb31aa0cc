/- Every operation. -/
import Derived.Test.YtmpnmcnjhpekaaaGh36
set_option linter.unusedSimpArgs false
namespace Go.Proofs.Gh
open Go.RowKit
/-- After which operations is all that was there there still? -/
def extOp (E : Env) (σ : St) (o : Oper) : Bool :=
  match o.op with
  | .alloc _ => true
  | .box _ _ => true
  | .buildSlice _ _ _ => true
  | .makeSlice _ _ _ => true
  | .call c => match c.callee with
    | .value f => match σ.view f with
      | .one (.fn f _) => match E.spec f with
        | some sp => sp.modes.all Mode.isRo
        | none => false
      | _ => false
    | _ => false
  | _ => false
theorem opK_ext {P : Program} {E : Env} {B : Base} {γ : Nat → Bx} {st : Nat → Prop} {ow : Nat → Option Ow} {σ : St} {w : World} {a : Act} {r : Res} (hE : EnvTy P E) {o : Oper} {k : S → St → Option Res} (R : Rel B γ st ow [] σ a.tmps w) (hnc : ∀ c f, o.op = .call c → c.callee ≠ .value f) (he : extOp E σ o = true)
    (h : opK E σ o k = some r) : DoneE P B st a w (execOp a.eval o) k r := by
  unfold opK at h
  unfold extOp at he
  split at he
  · rename_i t ho; simp only [ho] at h; exact done_alloc hE R ho h
  · rename_i t x ho; simp only [ho] at h; exact done_box R ho h
  · rename_i t n ps ho; simp only [ho] at h; exact done_buildSlice hE R ho h
  · rename_i t n c ho; simp only [ho] at h; exact done_makeSlice hE R ho h
  · rename_i c ho
    split at he
    · exact absurd ‹_› (hnc _ _ ho)
    · cases he
  · cases he
theorem ops_ext {P : Program} {E : Env} (hE : EnvTy P E) (hS : EnvSpec P E) {B : Base} {γ : Nat → Bx} {st : Nat → Prop} {ow : Nat → Option Ow} {σ : St} {w : World} {a : Act} {r : Res} {o : Oper} {k : S → St → Option Res} {next : Act → World → Prop} {Q : Exit → Act → World → Prop}
    (R : Rel B γ st ow [] σ a.tmps w) (h : opK E σ o k = some r)
    (hn : ∀ u s σ' γ' ow' w', (extOp E σ o = true → Ext w w') → k s σ' = some r → Rel B γ' st ow' [] σ' a.tmps w' → SlotOk σ' st γ' w' u s → next (a.put o.dst u) w') : o.wp P a w next Q := by
  by_cases hc : ∃ c f, o.op = .call c ∧ c.callee = .value f
  · obtain ⟨c, g, ho, hcl⟩ := hc
    unfold opK at h
    rw [ho] at h
    simp only [hcl] at h
    split at h
    · rename_i f caps hg
      have hv := R.view g
      rw [hg] at hv
      generalize he : a.eval g = vg at hv
      cases slot_one hv with
      | rep _ _ hr =>
        cases hr with
        | fn _ _ _ vs _ hvl hvs =>
          obtain ⟨hl, hs⟩ := retypes_ok R E c.argTypes.toList c.args.toList _ rfl
          have hcall := hS
          have hex : ∃ sp, E.spec f = some sp := by
            unfold St.callK at h
            split at h
            · exact ⟨_, ‹_›⟩
            · cases h
          obtain ⟨sp, hsp⟩ := hex
          obtain ⟨_, fn, hf, hb, hnm⟩ := hS f sp hsp
          have hrun : (execOp a.eval o).run P w = .ok (.enter f ((c.args.toList.map a.eval ++ vs).toArray)) w := by
            have hnm' : fn.name ≠ "runtime.NumGoroutine" := by simpa using hnm
            have hb' : fn.body ≠ none := by intro e; rw [e] at hb; cases hb
            have hargs : (c.args.toList.map a.eval ++ vs).toArray = Array.map a.eval c.args ++ vs.toArray := by apply Array.ext'; simp
            rw [hargs]
            simp [execOp, ho, resolve, hcl, he, Deferred.ofValue, invoke, callFunc, hf, hb', hnm']
          unfold Oper.wp
          rw [hrun, Oper.upon_enter]
          refine callK_ok hS R (by simp [hl, hvl]) (fun i u x hu hx => ?_) h (fun v s σ' γ' ow' w' hx hk R' hs' => hn v s σ' γ' ow' w' (fun he => hx ⟨sp, hsp, by
            unfold extOp at he
            simp only [ho, hcl, hg, hsp] at he
            exact he⟩) hk R' hs')
          by_cases hi : i < (c.args.toList.map a.eval).length
          · rw [List.getElem?_append_left hi, List.getElem?_map] at hu
            rw [List.getElem?_append_left (by rw [hl]; simpa using hi)] at hx
            cases hq : c.args.toList[i]? with
            | none => rw [hq] at hu; simp at hu
            | some y =>
              rw [hq] at hu
              simp only [Option.map_some, Option.some.injEq] at hu
              subst hu
              exact hs i y x hq hx
          · rw [List.getElem?_append_right (by omega)] at hu
            rw [List.getElem?_append_right (by rw [hl]; simpa using hi), List.getElem?_map] at hx
            simp only [List.length_map] at hu
            rw [hl] at hx
            cases hq : caps[i - c.args.toList.length]? with
            | none => rw [hq] at hx; simp at hx
            | some d =>
              rw [hq] at hx
              simp only [Option.map_some, Option.some.injEq] at hx
              subst hx
              exact .one _ _ (.rep _ _ (hvs _ d u hq hu))
    · cases h
  · have hnc : ∀ c f, o.op = .call c → c.callee ≠ .value f := fun c f ho hcl => hc ⟨c, f, ho, hcl⟩
    by_cases he : extOp E σ o = true
    · obtain ⟨u, s, σ', γ', ow', w', h1, h2, h3, h4, h5⟩ := opK_ext hE R hnc he h
      unfold Oper.wp
      rw [h1]
      exact hn u s σ' γ' ow' w' (fun _ => h2) h3 h4 h5
    · exact Done.wp (opK_sound hE R hnc h) (fun u s σ' γ' ow' w' => hn u s σ' γ' ow' w' (fun h => absurd h he))
theorem ops_ok {P : Program} {E : Env} (hE : EnvTy P E) (hS : EnvSpec P E) : OpsOk P E := fun R h hn => ops_ext hE hS R h fun u s σ' γ' ow' w' _ => hn u s σ' γ' ow' w'
end Go.Proofs.Gh
