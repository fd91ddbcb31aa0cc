/- Regions that draw nothing; code without loops and with them. -/
import Derived.Test.YtmpnmcnjhpekaaaGh20
import Derived.LoopN
set_option linter.unusedSimpArgs false
namespace Go.Proofs.Gh
open Go.RowKit
section
variable {P : Program} {E : Env} {B : Base} {γ : Nat → Bx} {st : Nat → Prop} {ow : Nat → Option Ow} {hand : List (Value × C)} {σ : St} {w : World} {a : Act} {r : Res} {tmps : Array Value}

/-- Every operation does what its ghost does. -/
def OpsOk (P : Program) (E : Env) : Prop :=
  ∀ {B : Base} {γ : Nat → Bx} {st : Nat → Prop} {ow : Nat → Option Ow} {σ : St} {w : World} {a : Act} {r : Res} {o : Oper} {k : S → St → Option Res} {next : Act → World → Prop} {Q : Exit → Act → World → Prop},
    Rel B γ st ow [] σ a.tmps w → opK E σ o k = some r →
    (∀ u s σ' γ' ow' w', k s σ' = some r → Rel B γ' st ow' [] σ' a.tmps w' → SlotOk σ' st γ' w' u s → next (a.put o.dst u) w') → o.wp P a w next Q

theorem Done.wp {o : Oper} {k : S → St → Option Res} {next : Act → World → Prop} {Q : Exit → Act → World → Prop} (h : Done P B st a w (execOp a.eval o) k r)
    (hn : ∀ u s σ' γ' ow' w', k s σ' = some r → Rel B γ' st ow' [] σ' a.tmps w' → SlotOk σ' st γ' w' u s → next (a.put o.dst u) w') : o.wp P a w next Q := by
  obtain ⟨u, s, σ', γ', ow', w', hrun, hk, R, hs⟩ := h
  unfold Oper.wp
  rcases hrun with hrun | ⟨hrun, rfl⟩
  · rw [hrun]; exact hn u s σ' γ' ow' w' hk R hs
  · rw [hrun]; exact hn _ s σ' γ' ow' w' hk R hs

theorem Rel.put (R : Rel B γ st ow hand σ a.tmps w) {s : S} {u : Value} (d : Option Nat) (h : SlotOk σ st γ w u s) : Rel B γ st ow hand (σ.assign? d s) (a.put d u).tmps w := by
  cases d with
  | none => exact R
  | some d => exact R.assign d h
theorem put_defers (a : Act) (d : Option Nat) (u : Value) : (a.put d u).defers = a.defers := by cases d <;> rfl
theorem Rel.told (R : Rel B γ st ow hand σ tmps w) {d : Nat} {b : Bool} (h : σ.slot d = .one (.v (.bool b))) : tmps[d]? = some (.bool b) := by
  unfold St.slot at h
  cases hs : σ.slots[d]? with
  | none => rw [List.getD_eq_getElem?_getD, hs] at h; cases h
  | some s =>
    rw [List.getD_eq_getElem?_getD, hs] at h
    simp only [Option.getD_some] at h
    subst h
    have hlt : d < tmps.size := by rw [R.size]; exact (List.getElem?_eq_some_iff.1 hs).1
    have hu : tmps[d]? = some tmps[d] := Array.getElem?_eq_getElem hlt
    rw [hu, slot_bool (R.slots d _ _ hs hu)]
theorem slot_undef {st : Nat → Prop} {γ : Nat → Bx} {σ : St} {w : World} : SlotOk σ st γ w undef (.tup []) := SlotOk.tup [] [] rfl (fun i u s _ hs => by simp at hs)
theorem Rel.untold (R : Rel B γ st ow hand σ tmps w) {d : Nat} (h : σ.slot d = .tup []) : tmps[d]? = some (.tuple #[]) := by
  unfold St.slot at h
  cases hs : σ.slots[d]? with
  | none => rw [List.getD_eq_getElem?_getD, hs] at h; cases h
  | some s =>
    rw [List.getD_eq_getElem?_getD, hs] at h
    simp only [Option.getD_some] at h
    subst h
    have hlt : d < tmps.size := by rw [R.size]; exact (List.getElem?_eq_some_iff.1 hs).1
    have hu : tmps[d]? = some tmps[d] := Array.getElem?_eq_getElem hlt
    have := R.slots d _ _ hs hu
    rw [hu]
    generalize tmps[d] = u at this
    cases this with
    | tup us _ hl _ =>
      have : us = [] := List.eq_nil_of_length_eq_zero hl
      subst this; rfl
theorem Rel.tell (R : Rel B γ st ow hand σ tmps w) {d : Nat} {b : Bool} (h : σ.slot d = .one (.v (.bool b))) : Rel B γ st ow hand (σ.assign d (.one (.v (.bool b)))) tmps w := by
  have ht := R.told h
  have := R.assign d (s := .one (.v (.bool b))) (u := .bool b) (.one _ _ (.rep _ _ (.v _ _ _ rfl)))
  have he : tmps.setIfInBounds d (.bool b) = tmps := by
    apply Array.ext_getElem?
    intro i
    rw [Array.getElem?_setIfInBounds]
    by_cases e : d = i
    · subst e
      have hlt : d < tmps.size := (Array.getElem?_eq_some_iff.1 ht).1
      simp [hlt, ← ht]
    · simp [e]
  rw [he] at this
  exact this

theorem opsK_wp (hO : OpsOk P E) {ops : Array Oper} {Q : Exit → Act → World → Prop} {ds : List Deferred} : ∀ (l : List Oper) (n : Nat) {γ : Nat → Bx} {ow : Nat → Option Ow} {σ : St} {a : Act} {w : World} {k : St → Option Res},
    (∀ j, l[j]? = ops[n + j]?) → Rel B γ st ow [] σ a.tmps w → a.defers = ds → opsK E ops l σ k = some r →
    (∀ σ' γ' ow' a' w', k σ' = some r → Rel B γ' st ow' [] σ' a'.tmps w' → a'.defers = ds → Q .normal a' w') → wpOps P ops Q (List.range' n l.length) a w
  | [], n, γ, ow, σ, a, w, k, _, R, hd, h, hQ => hQ _ _ _ _ _ h R hd
  | o :: l, n, γ, ow, σ, a, w, k, hl, R, hd, h, hQ => by
    have ho : ops[n]? = some o := by simpa using (hl 0).symm
    have hl' : ∀ j, l[j]? = ops[n + 1 + j]? := fun j => by have := hl (j + 1); simpa [Nat.add_assoc, Nat.add_comm 1 j] using this
    simp only [List.length_cons, List.range'_succ, wpOps, ho]
    have hyes : ∀ {σ : St}, Rel B γ st ow [] σ a.tmps w → (opK E σ o fun s σ' => opsK E ops l (σ'.assign? o.dst s) k) = some r → o.wp P a w (wpOps P ops Q (List.range' (n + 1) l.length)) Q := fun R h =>
      hO R h fun u s σ' γ' ow' w' hk R' hs => opsK_wp hO l (n + 1) hl' (R'.put o.dst hs) (by rw [put_defers]; exact hd) hk hQ
    have hno : ∀ {σ : St}, Rel B γ st ow [] σ a.tmps w → opsK E ops l (σ.assign? o.dst (.tup [])) k = some r → wpOps P ops Q (List.range' (n + 1) l.length) (a.put o.dst undef) w := fun R h =>
      opsK_wp hO l (n + 1) hl' (R.put o.dst slot_undef) (by rw [put_defers]; exact hd) h hQ
    simp only [opsK] at h
    split at h
    · rename_i hg
      have hw : Region.wanted o (yielded ops a.tmps) = true := by simp [Region.wanted, hg]
      rw [if_pos hw]
      exact .inl (hyes R h)
    · rename_i j want hg
      split at h
      · rename_i d hd'
        split at h
        · rename_i b hb
          have hy : yielded ops a.tmps j = some b := by
            unfold yielded
            rw [hd']
            simp only [Option.bind_some]
            rw [R.told hb]
          have hw : Region.wanted o (yielded ops a.tmps) = (b == want) := by
            simp only [Region.wanted, hg, hy]
            cases b <;> cases want <;> rfl
          have R' := R.tell hb
          cases b <;> cases want <;> simp only [cond_true, cond_false] at h
          · rw [if_pos (by rw [hw]; rfl)]; exact .inl (hyes R' h)
          · rw [if_neg (by rw [hw]; simp)]; exact hno R' h
          · rw [if_neg (by rw [hw]; simp)]; exact hno R' h
          · rw [if_pos (by rw [hw]; rfl)]; exact .inl (hyes R' h)
        · rename_i hb
          have hy : yielded ops a.tmps j = none := by
            unfold yielded
            rw [hd']
            simp only [Option.bind_some]
            rw [R.untold hb]
          have hw : Region.wanted o (yielded ops a.tmps) = false := by simp [Region.wanted, hg, hy]
          rw [if_neg (by rw [hw]; simp)]; exact hno R h
        · cases h
      · cases h

/-- What a loop's head forgets. -/
def ForgetOk : Prop := ∀ {B : Base} {γ : Nat → Bx} {st : Nat → Prop} {ow : Nat → Option Ow} {σ : St} {w : World} {tmps : Array Value} {r : Res} {keep : List Nat} {n : Nat} {k : St → Option Res},
  Rel B γ st ow [] σ tmps w → (∀ i x, B.pin i = some x → i < n) → forgetK keep n σ k = some r → ∃ σ' γ' ow', k σ' = some r ∧ Rel B γ' st ow' [] σ' tmps w
def Ex.out : Ex → Exit
  | .normal => .normal
  | .exit id => .exit id
  | .ret => .ret
/-- Regions that draw. -/
def DrawsOk (P : Program) (E : Env) (draws : Array Oper → Bool) : Prop :=
  ∀ {B : Base} {γ : Nat → Bx} {st : Nat → Prop} {ow : Nat → Option Ow} {σ : St} {w : World} {a : Act} {r : Res} {id : Nat} {ops : Array Oper} {k : St → Option Res} {Q : Exit → Act → World → Prop},
    draws ops = true → Rel B γ st ow [] σ a.tmps w → opsK E ops ops.toList σ k = some r →
    (∀ σ' γ' ow' a' w', k σ' = some r → Rel B γ' st ow' [] σ' a'.tmps w' → a'.defers = a.defers → Q .normal a' w') → (Code.region id ops true).wp P Q a w

theorem codeK_wp (hO : OpsOk P E) {draws : Array Oper → Bool} (hD : DrawsOk P E draws) (hF : ForgetOk) {keep : Nat → List Nat} {m : Nat} {ds : List Deferred} : ∀ (c : Code) {Q : Exit → Act → World → Prop} {γ : Nat → Bx} {ow : Nat → Option Ow} {σ : St} {a : Act} {w : World} {k : Ex → St → Option Res},
    Rel B γ st ow [] σ a.tmps w → a.defers = ds → codeK E draws keep m c σ k = some r →
    (∀ e σ' γ' ow' a' w', k e σ' = some r → Rel B γ' st ow' [] σ' a'.tmps w' → a'.defers = ds → Q e.out a' w') → c.wp P Q a w
  | .skip, Q, γ, ow, σ, a, w, k, R, hd, h, hQ => wp_skip (hQ .normal _ _ _ _ _ h R hd)
  | .region id ops d, Q, γ, ow, σ, a, w, k, R, hd, h, hQ => by
    simp only [codeK] at h
    cases d with
    | true =>
      simp only [if_true] at h
      split at h
      · exact hD ‹_› R h fun σ' γ' ow' a' w' hk R' hd' => hQ .normal _ _ _ _ _ hk R' (hd'.trans hd)
      · cases h
    | false =>
      simp only [Bool.false_eq_true, if_false] at h
      refine wp_region ?_
      have := opsK_wp (Q := Q) hO ops.toList 0 (a := a) (by simp) R hd h fun σ' γ' ow' a' w' hk R' hd' => hQ .normal _ _ _ _ _ hk R' hd'
      simpa [List.range_eq_range'] using this
  | .seq x y, Q, γ, ow, σ, a, w, k, R, hd, h, hQ => by
    simp only [codeK] at h
    refine wp_seq (codeK_wp hO hD hF x R hd h fun e σ' γ' ow' a' w' hk R' hd' => ?_)
    cases e with
    | normal => exact codeK_wp hO hD hF y R' hd' hk hQ
    | exit id => exact hQ (.exit id) _ _ _ _ _ hk R' hd'
    | ret => exact hQ .ret _ _ _ _ _ hk R' hd'
  | .cond c x y, Q, γ, ow, σ, a, w, k, R, hd, h, hQ => by
    simp only [codeK] at h
    split at h
    · rename_i t ht
      have hc := slot_bool (ht ▸ R.view c)
      cases t with
      | true => exact wp_cond hc (codeK_wp hO hD hF x R hd h hQ)
      | false => exact wp_cond hc (codeK_wp hO hD hF y R hd h hQ)
    · cases h
  | .block id x, Q, γ, ow, σ, a, w, k, R, hd, h, hQ => by
    simp only [codeK] at h
    refine wp_block (codeK_wp hO hD hF x R hd h fun e σ' γ' ow' a' w' hk R' hd' => ?_)
    cases e with
    | normal => exact hQ .normal _ _ _ _ _ hk R' hd'
    | exit j =>
      simp only at hk
      by_cases e : j = id
      · rw [if_pos e] at hk
        simp only [Ex.out, Exit.inBlock, e, if_true]
        exact hQ .normal _ _ _ _ _ hk R' hd'
      · rw [if_neg e] at hk
        simp only [Ex.out, Exit.inBlock, e, if_false]
        exact hQ (.exit j) _ _ _ _ _ hk R' hd'
    | ret => exact hQ .ret _ _ _ _ _ hk R' hd'
  | .loop x, Q, γ, ow, σ, a, w, k, R, hd, h, hQ => by
    simp only [codeK] at h
    refine wp_loop_rounds m ?_
    have hp : ∀ i y, B.pin i = some y → i < σ.boxes.length := fun i y hy => (R.pin i y hy).1
    generalize hn : σ.boxes.length = n at h hp
    clear hn
    have key : ∀ (j : Nat) {γ : Nat → Bx} {ow : Nat → Option Ow} {σ : St} {a : Act} {w : World}, Rel B γ st ow [] σ a.tmps w → a.defers = ds → loopK (codeK E draws keep m x) (keep (firstRegion x)) n j σ k = some r → Code.rounds P x Q j a w := by
      intro j
      induction j with
      | zero => intro γ ow σ a w R hd h; simp [loopK] at h
      | succ j ih =>
        intro γ ow σ a w R hd h
        simp only [loopK] at h
        obtain ⟨σ1, γ1, ow1, h1, R1⟩ := hF R hp h
        rw [rounds_succ]
        refine codeK_wp hO hD hF x R1 hd h1 fun e σ' γ' ow' a' w' hk R' hd' => ?_
        cases e with
        | normal => exact ih R' hd' hk
        | exit id => exact hQ (.exit id) _ _ _ _ _ hk R' hd'
        | ret => exact hQ .ret _ _ _ _ _ hk R' hd'
    exact key m R hd h
  | .exit id, Q, γ, ow, σ, a, w, k, R, hd, h, hQ => wp_exit (hQ (.exit id) _ _ _ _ _ h R hd)
  | .ret, Q, γ, ow, σ, a, w, k, R, hd, h, hQ => wp_ret (hQ .ret _ _ _ _ _ h R hd)
  | .scope _, Q, γ, ow, σ, a, w, k, R, hd, h, hQ => by simp [codeK] at h
  | .label _, Q, γ, ow, σ, a, w, k, R, hd, h, hQ => by simp [codeK] at h
  | .goto _, Q, γ, ow, σ, a, w, k, R, hd, h, hQ => by simp [codeK] at h
  | .refuse _, Q, γ, ow, σ, a, w, k, R, hd, h, hQ => by simp [codeK] at h
  | .rangeFunc .., Q, γ, ow, σ, a, w, k, R, hd, h, hQ => by simp [codeK] at h
end
end Go.Proofs.Gh
