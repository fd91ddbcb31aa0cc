/- A call, whole. -/
import Derived.Test.YtnnbpmemkekbfaaGreatGh35
set_option linter.unusedSimpArgs false
namespace Go.Proofs.Gh
open Go.RowKit
section
variable {P : Program} {E : Env} {B : Base} {γ : Nat → Bx} {st : Nat → Prop} {ow : Nat → Option Ow} {σ : St} {w : World} {r : Res} {tmps : Array Value}

/-- What is told of the functions that are called. -/
def EnvSpec (P : Program) (E : Env) : Prop := ∀ f sp, E.spec f = some sp → SpecOk P f sp ∧ ∃ fn, P.funcs[f]? = some fn ∧ fn.body.isNone = false ∧ (fn.name == "runtime.NumGoroutine") = false
theorem shapeOut_id {ok : OutK} {s : S} {k : S → Option Res} (h : shapeOut ok s k = some r) : k s = some r := by
  unfold shapeOut at h
  split at h
  · exact h
  · simp only [Option.bind_eq_some_iff] at h
    obtain ⟨c, hc, d, hd, h⟩ := h
    rw [← asOwn_some hd] at h
    unfold S.one? at hc
    split at hc
    · cases hc; exact h
    · cases hc
  · simp only [Option.bind_eq_some_iff] at h
    obtain ⟨cs, hc, h⟩ := h
    split at h
    · rename_i hl
      have := shapeRes_id _ _ hl h
      unfold S.bx? at hc
      split at hc
      · cases hc; exact this
      · cases hc
    · cases h
  · simp only [Option.bind_eq_some_iff] at h
    obtain ⟨cs, hc, h⟩ := h
    split at h
    · rename_i hl
      have := shapeRes_id _ _ hl h
      unfold S.agg? at hc
      split at hc
      · cases hc; exact this
      · cases hc
    · cases h
theorem shapeOuts_id : ∀ (ks : List OutK) (os : List S) {k : List S → Option Res}, shapeOuts ks os k = some r → k os = some r
  | [], os, k, h => h
  | ok :: ks, os, k, h => by
    simp only [shapeOuts, Option.bind_eq_some_iff] at h
    obtain ⟨s, hs, h⟩ := h
    have h2 := shapeOuts_id ks _ (shapeOut_id h)
    cases os with
    | nil => simp at hs
    | cons s' os => simp at hs; subst hs; exact h2
theorem callK_ok (hS : EnvSpec P E) {f : FuncId} {xs : List S} {us : List Value} {t : TypeId} {k : S → St → Option Res} (R : Rel B γ st ow [] σ tmps w) (hl : us.length = xs.length)
    (hs : ∀ (i : Nat) (u : Value) (x : S), us[i]? = some u → xs[i]? = some x → SlotOk σ st γ w u x) (h : σ.callK E f xs t k = some r) {K : Ending → World → Prop}
    (hn : ∀ v s σ' γ' ow' w', ((∃ sp, E.spec f = some sp ∧ sp.modes.all Mode.isRo = true) → Ext w w') → k s σ' = some r → Rel B γ' st ow' [] σ' tmps w' → SlotOk σ' st γ' w' v s → K (.returned v) w') : Calls P f us.toArray w K := by
  unfold St.callK at h
  split at h
  · rename_i sp hsp
    obtain ⟨hok, _⟩ := hS f sp hsp
    obtain ⟨zs, ys, σ1, ow1, H, γ2, ow2, h1, R1, hL, hB, hml, hsh, hA, R2, hlen, hWr⟩ := callStart R hl hs h
    rw [Option.bind_eq_some_iff] at h1
    obtain ⟨res, hrun, h2⟩ := h1
    replace h2 := shapeOuts_id _ _ h2
    refine (hok _ γ2 ow2 us zs res R2 hml hrun).mono fun e w' hpost => ?_
    obtain ⟨v, hand, γ3, ow3, bs', he, hres, R3, hout, hlh, hlo, hln⟩ := hpost
    subst he
    rw [hout] at hlo hln h2
    have hcv : ∀ (i q : Nat) (b : Box) (c : C), bs'[i]? = some b → b.cs[q]? = some c → ∃ u, cellV γ3 w' i q = some u ∧ Rep (stays sp.keeps (boxesOf sp.modes xs) st ow1) γ3 w' bs'.length u c (fun b => ow3 b = some (.cell i q)) := fun i q b c hb hc =>
      R3.cells i q c (by unfold St.root; rw [hb]; exact hc)
    have hpin : ∀ (i : Nat) (x : Bx), (bxsOf sp.modes zs us)[i]? = some x → i < bs'.length ∧ γ3 i = x := fun i x hx => R3.pin i x hx
    have hbl : (bxsOf sp.modes zs us).length ≤ bs'.length := by
      by_cases h0 : (bxsOf sp.modes zs us).length = 0
      · omega
      · have := (hpin ((bxsOf sp.modes zs us).length - 1) _ (List.getElem?_eq_getElem (by omega))).1
        omega
    obtain ⟨⟨ow4, R4⟩, hplace⟩ := R1.merge (B' := ⟨w, writes ow1 γ σ1 (boxesOf sp.modes xs), stays sp.keeps (boxesOf sp.modes xs) st ow1, fun i => (bxsOf sp.modes zs us)[i]?⟩) (boxesOf sp.modes xs) rfl (fun b o h => h) (fun b hb => .inl hb) R3
      (fun i x hx => (R3.hands i x hx).left (hlh x (List.mem_of_getElem? hx)))
      (back := (backs (valsOf γ3 w') sp.modes zs bs' 0).flatten) (idx := fun j q => some (((backs (valsOf γ3 w') sp.modes zs bs' 0).take j).flatten.length + q))
      (fun i x hx => by
        obtain ⟨j, q, row, e1, e2, e3⟩ := flatten_idx _ i x hx
        obtain ⟨b, hb, hc, hv, hlv⟩ := backs_get (keeps := sp.keeps) sp.modes zs bs' 0 j row e1 hlo (fun i q b c hb hc => by
          obtain ⟨u, _, hr⟩ := hcv i q b c hb hc
          exact hr.notBx) q x e2
        obtain ⟨u, hu, hr⟩ := hcv j q b x.2 hb hc
        have hux := valsOf_get hv (by rw [Nat.zero_add]; exact hu)
        exact ⟨j, q, by rw [e3], by rw [hux]; exact hr.left hlv⟩)
      (fun i hi => by
        obtain ⟨g, o, q, bx', b0, e1, e2, e3, e4, e5⟩ := lent_find (γ3 := γ3) hL (j := 0) hsh hbl (fun i x hx => by rw [Nat.zero_add]; exact (hpin i x hx).2) hln i hi
        obtain ⟨b, hb1, hb2⟩ := hB.gone i hi
        rw [e4] at hb1; cases hb1
        refine ⟨_, hb2, fun k c hc => ?_, g, o, q, bx', e1, by simpa using e2, e3, by simpa using e5⟩
        simp only [List.getElem?_map] at hc
        cases hq : b0.cs[k]? with
        | none => rw [hq] at hc; simp at hc
        | some d => rw [hq] at hc; simpa using hc.symm)
    obtain ⟨σ2, ow5, h3, R5⟩ := imports_ok (γ3 := γ3) (j := 0) hL hplace hsh hbl (fun i x hx => by rw [Nat.zero_add]; exact (hpin i x hx).2) (fun i q b c hb hc => by
      obtain ⟨u, hu, _⟩ := hcv i q b c hb hc
      exact ⟨u, by rw [Nat.zero_add]; exact hu⟩) R4 h2
    obtain ⟨s', σ3, γ4, ow6, h4, R6, hs6⟩ := homeResult hres (hand := []) (by simpa using R5) (shapeS_id h3)
    exact hn v s' σ3 γ4 ow6 w' (fun ⟨sp', h1, h2⟩ b hb => by rw [hsp] at h1; cases h1; exact R3.chg.same b hb (hWr h2 b)) h4 R6 hs6
  · cases h
end
end Go.Proofs.Gh
