/- Handlers of loops, out of a told head; environments out of lists. -/
import Derived.Test.YtmpnmcnjhpekaaaGh41
set_option linter.unusedSimpArgs false
namespace Go.Proofs.Gh
open Go Go.RowKit

abbrev W (n : Int) : Int := IntKind.wrap .i64 n
abbrev B8 (n : Int) : Int := IntKind.wrap .u8 n
def fillS : List Nat → List S → List S → List S
  | t :: ts, s :: ss, l => fillS ts ss (l.set t s)
  | _, _, l => l
def headOf (N : Nat) (kp : List Nat) (x : List S × List Box) : St := ⟨fillS kp x.1 (List.replicate N (.one .unk)), x.2⟩
def hand (kp : List Nat) (n N : Nat) (d : List S → List Box → Option Res) (σ : St) : Option Res :=
  if σ.boxes.length = n ∧ σ.slots.length = N then forgetK kp n σ fun σ1 => d (kp.map σ1.slot) σ1.boxes else none

/-! ### What a head looks like -/
theorem homeC_slots (c : C) (σ : St) : ∃ c' σ', (∀ k, σ.homeC c k = k c' σ') ∧ σ'.slots = σ.slots := by
  unfold St.homeC
  split
  · exact ⟨_, _, fun _ => rfl, rfl⟩
  · exact ⟨_, _, fun _ => rfl, rfl⟩
  · exact ⟨_, _, fun _ => rfl, rfl⟩
theorem homesC_slots : ∀ (cs : List C) (σ : St), ∃ cs' σ', (∀ k, homesC σ cs k = k cs' σ') ∧ σ'.slots = σ.slots
  | [], σ => ⟨[], σ, fun _ => rfl, rfl⟩
  | c :: cs, σ => by
    obtain ⟨c', σ', h1, e1⟩ := homeC_slots c σ
    obtain ⟨cs', σ2, h2, e2⟩ := homesC_slots cs σ'
    exact ⟨c' :: cs', σ2, fun k => by simp only [homesC, h1, h2], e2.trans e1⟩
mutual
theorem homeS_slots : ∀ (s : S) (σ : St), ∃ s' σ', (∀ k, σ.homeS s k = k s' σ') ∧ σ'.slots = σ.slots
  | .one c, σ => by
    obtain ⟨c', σ', h1, e1⟩ := homeC_slots c σ
    exact ⟨.one c', σ', fun k => by simp only [St.homeS, h1], e1⟩
  | .agg cs, σ => by
    obtain ⟨c', σ', h1, e1⟩ := homesC_slots cs σ
    exact ⟨.agg c', σ', fun k => by simp only [St.homeS, h1], e1⟩
  | .tup ss, σ => by
    obtain ⟨c', σ', h1, e1⟩ := homesS_slots ss σ
    exact ⟨.tup c', σ', fun k => by simp only [St.homeS, h1], e1⟩
theorem homesS_slots : ∀ (ss : List S) (σ : St), ∃ ss' σ', (∀ k, σ.homesS ss k = k ss' σ') ∧ σ'.slots = σ.slots
  | [], σ => ⟨[], σ, fun _ => by simp only [St.homesS], rfl⟩
  | s :: ss, σ => by
    obtain ⟨s', σ', h1, e1⟩ := homeS_slots s σ
    obtain ⟨ss', σ2, h2, e2⟩ := homesS_slots ss σ'
    exact ⟨s' :: ss', σ2, fun k => by simp only [St.homesS, h1, h2], e2.trans e1⟩
end
theorem placeK_slots : ∀ (l : List (Nat × S)) (σ : St), ∃ σ', (∀ k, placeK l σ k = k σ') ∧ σ'.slots.length = σ.slots.length ∧ ∀ i, i ∉ l.map (·.1) → σ'.slots[i]? = σ.slots[i]?
  | [], σ => ⟨σ, fun _ => rfl, rfl, fun _ _ => rfl⟩
  | (t, s) :: l, σ => by
    obtain ⟨s', σ1, h1, e1⟩ := homeS_slots s σ
    obtain ⟨σ2, h2, e2, e3⟩ := placeK_slots l (σ1.assign t s')
    refine ⟨σ2, fun k => by simp only [placeK, h1, h2], by rw [e2]; simp [St.assign, e1], fun i hi => ?_⟩
    simp only [List.map_cons, List.mem_cons, not_or] at hi
    rw [e3 i hi.2]
    simp only [St.assign, e1, List.getElem?_set_ne (Ne.symm hi.1)]
theorem kill_len (σ : St) (h : C → Bool) : (σ.kill h).slots.length = σ.slots.length := by simp [St.kill]
theorem pullC_len (n : Nat) (c : C) (σ : St) : (∀ k, pullC n σ c k = none) ∨ ∃ c' σ', (∀ k, pullC n σ c k = k c' σ') ∧ σ'.slots.length = σ.slots.length := by
  unfold pullC
  split
  · split
    · split
      · simp only [nodeK_eq]
        generalize σ.nodeC _ = x
        cases x with
        | none => exact .inl fun k => rfl
        | some d =>
          simp only [Option.bind_some]
          split
          · exact .inr ⟨_, _, fun k => rfl, by rw [kill_len]; rfl⟩
          · exact .inr ⟨_, _, fun k => rfl, by rw [kill_len]; rfl⟩
          · exact .inr ⟨_, _, fun k => rfl, rfl⟩
      · exact .inr ⟨_, _, fun k => rfl, rfl⟩
    · exact .inr ⟨_, _, fun k => rfl, rfl⟩
  · split
    · exact .inr ⟨_, _, fun k => rfl, rfl⟩
    · exact .inr ⟨_, _, fun k => rfl, rfl⟩
  · exact .inr ⟨_, _, fun k => rfl, rfl⟩
  · exact .inl fun k => rfl
  · exact .inl fun k => rfl
  · exact .inr ⟨_, _, fun k => rfl, rfl⟩
theorem pullsC_len (n : Nat) : ∀ (cs : List C) (σ : St), (∀ k, pullsC n σ cs k = none) ∨ ∃ cs' σ', (∀ k, pullsC n σ cs k = k cs' σ') ∧ σ'.slots.length = σ.slots.length
  | [], σ => .inr ⟨[], σ, fun _ => rfl, rfl⟩
  | c :: cs, σ => by
    rcases pullC_len n c σ with h | ⟨c', σ', h, e⟩
    · exact .inl fun k => by simp only [pullsC, h]
    · rcases pullsC_len n cs σ' with h2 | ⟨cs', σ2, h2, e2⟩
      · exact .inl fun k => by simp only [pullsC, h, h2]
      · exact .inr ⟨c' :: cs', σ2, fun k => by simp only [pullsC, h, h2], e2.trans e⟩
theorem gatherK_len (n : Nat) : ∀ (ts : List Nat) (σ : St), (∀ k, gatherK n ts σ k = none) ∨ ∃ l σ', (∀ k, gatherK n ts σ k = k l σ') ∧ σ'.slots.length = σ.slots.length ∧ l.map (·.1) = ts
  | [], σ => .inr ⟨[], σ, fun _ => rfl, rfl, rfl⟩
  | t :: ts, σ => by
    have h1 : (∀ k, pullS n σ (σ.slot t) k = none) ∨ ∃ s' σ', (∀ k, pullS n σ (σ.slot t) k = k s' σ') ∧ σ'.slots.length = σ.slots.length := by
      unfold pullS
      split
      · rename_i c _
        rcases pullC_len n c σ with h | ⟨c', σ', h, e⟩
        · exact .inl fun k => by simp only [h]
        · exact .inr ⟨.one c', σ', fun k => by simp only [h], e⟩
      · rename_i cs _
        rcases pullsC_len n cs σ with h | ⟨cs', σ', h, e⟩
        · exact .inl fun k => by simp only [h]
        · exact .inr ⟨.agg cs', σ', fun k => by simp only [h], e⟩
      · exact .inr ⟨_, _, fun k => rfl, rfl⟩
    rcases h1 with h | ⟨s', σ', h, e⟩
    · exact .inl fun k => by simp only [gatherK, h]
    · rcases gatherK_len n ts σ' with h2 | ⟨l, σ2, h2, e2, e3⟩
      · exact .inl fun k => by simp only [gatherK, h, h2]
      · exact .inr ⟨(t, s') :: l, σ2, fun k => by simp only [gatherK, h, h2], e2.trans e, by simp [e3]⟩
theorem fillS_length : ∀ (ts : List Nat) (ss l : List S), (fillS ts ss l).length = l.length
  | [], _, _ => rfl
  | _ :: _, [], _ => rfl
  | t :: ts, s :: ss, l => by simp [fillS, fillS_length ts ss]
theorem fillS_out : ∀ (ts : List Nat) (ss l : List S) (i : Nat), i ∉ ts → (fillS ts ss l)[i]? = l[i]?
  | [], _, _, _, _ => rfl
  | _ :: _, [], _, _, _ => rfl
  | t :: ts, s :: ss, l, i, h => by
    simp only [List.mem_cons, not_or] at h
    simp only [fillS]
    rw [fillS_out ts ss _ i h.2, List.getElem?_set_ne (Ne.symm h.1)]
theorem fillS_in (f : Nat → S) : ∀ (ts : List Nat) (l : List S) (i : Nat), i ∈ ts → i < l.length → (fillS ts (ts.map f) l)[i]? = some (f i)
  | t :: ts, l, i, h, hl => by
    simp only [List.map_cons, fillS]
    by_cases hi : i ∈ ts
    · exact fillS_in f ts _ i hi (by simpa using hl)
    · rw [fillS_out ts _ _ i hi]
      have : i = t := by
        rcases List.mem_cons.1 h with h | h
        · exact h
        · exact absurd h hi
      subst this
      simp [hl]
/-- What is told of a head is all that is told there. -/
theorem forgetK_head (kp : List Nat) (n : Nat) (σ : St) : (∀ k, forgetK kp n σ k = none) ∨ ∃ σ', (∀ k, forgetK kp n σ k = k σ') ∧ σ' = headOf σ.slots.length kp (kp.map σ'.slot, σ'.boxes) := by
  unfold forgetK
  by_cases hn : n ≤ σ.boxes.length
  · simp only [hn, if_true]
    rcases gatherK_len n kp σ with h | ⟨l, σ1, h, e1, e2⟩
    · exact .inl fun k => by rw [h]
    · obtain ⟨σ2, h2, e3, e4⟩ := placeK_slots l (σ1.trunc n)
      refine .inr ⟨σ2, fun k => by rw [h, h2], ?_⟩
      have hlen : σ2.slots.length = σ.slots.length := by rw [e3]; simp [St.trunc, e1]
      have hsl : σ2.slots = fillS kp (kp.map σ2.slot) (List.replicate σ.slots.length (.one .unk)) := by
        apply List.ext_getElem?
        intro i
        by_cases hi : i < σ.slots.length
        · by_cases hk : i ∈ kp
          · rw [fillS_in σ2.slot kp _ i hk (by simpa using hi)]
            unfold St.slot
            rw [List.getD_eq_getElem?_getD, List.getElem?_eq_getElem (by omega)]
            rfl
          · rw [fillS_out _ _ _ _ hk, e4 i (by rw [e2]; exact hk)]
            simp [St.trunc, e1, hi]
        · rw [List.getElem?_eq_none (by omega), List.getElem?_eq_none (by rw [fillS_length]; simp; omega)]
      cases σ2
      simp only [headOf, St.mk.injEq, and_true]
      exact hsl
  · exact .inl fun k => by simp [hn]
theorem hand_ok {V : Type} {kp lv : List Nat} {n N : Nat} {bodyK : St → Kx → Option Res} {d : Kx → List S → List Box → Option Res} {enc : V → List S × List Box} {fb : Kx → (V → Option Res) → V → Option Res}
    (hd : ∀ k ss bs r, d k ss bs = some r → ∃ v m, (ss, bs) = enc v ∧ iterL (fb k) m v = some r)
    (hstep : ∀ k Kn v, bodyK (headOf N kp (enc v)) (fun e σ' => match e with | .normal => forgetK kp n σ' Kn | e => k e (σ'.only lv)) = fb k (fun v' => Kn (headOf N kp (enc v'))) v) :
    ∀ σ k r, hand kp n N (d k) σ = some r → ∃ m, loopL bodyK kp lv σ.boxes.length m σ k = some r := by
  intro σ k r h
  unfold hand at h
  split at h
  · rename_i hc
    obtain ⟨hc1, hc2⟩ := hc
    rcases forgetK_head kp n σ with hf | ⟨σ1, hf, he⟩
    · rw [hf] at h; cases h
    · rw [hf] at h
      obtain ⟨v, m, hv, hi⟩ := hd _ _ _ _ h
      refine ⟨m, ?_⟩
      rw [hc1, loop_iter (head := fun v => headOf N kp (enc v)) (fb := fb k) (k := k) (fun Kn v => hstep k Kn v) m v σ (fun Kn => by rw [hf, he, hc2, hv])]
      exact hi
  · cases h

/-! ### Loops of a piece of code -/
def loopsOf : Code → List Code
  | .seq a b => loopsOf a ++ loopsOf b
  | .cond _ a b => loopsOf a ++ loopsOf b
  | .block _ a => loopsOf a
  | .loop a => [a]
  | _ => []
def findLoop (id : Nat) : Code → Option Code
  | .seq a b => (findLoop id a).or (findLoop id b)
  | .cond _ a b => (findLoop id a).or (findLoop id b)
  | .block _ a => findLoop id a
  | .loop a => if firstRegion a = id then some a else findLoop id a
  | _ => none
/-! ### Environments -/
def CalleeOk (P : Program) (f : FuncId) (sp : Spec) : Prop := SpecOk P f sp ∧ ∃ fn, P.funcs[f]? = some fn ∧ fn.body.isNone = false ∧ (fn.name == "runtime.NumGoroutine") = false
def lookD (l : List (Nat × List OutK)) (f : FuncId) : List OutK := (look l f).getD []
def mkEnv (tys : List (Nat × TI)) (l : List (Nat × Spec)) (os : List (Nat × List OutK)) : Env := ⟨look tys, look l, lookD os, false, fun _ => false, fun _ => false, fun _ => none⟩
def SpecsOk (P : Program) (l : List (Nat × Spec)) : Prop := ∀ x ∈ l, CalleeOk P x.1 x.2
theorem specsOk_nil {P : Program} : SpecsOk P [] := by intro x hx; cases hx
theorem specsOk_cons {P : Program} {f : Nat} {s : Spec} {l : List (Nat × Spec)} (h : CalleeOk P f s) (hl : SpecsOk P l) : SpecsOk P ((f, s) :: l) := by
  intro x hx
  rcases List.mem_cons.1 hx with rfl | hx
  · exact h
  · exact hl x hx
theorem envSpec_of {P : Program} {tys : List (Nat × TI)} {l : List (Nat × Spec)} {os : List (Nat × List OutK)} (h : SpecsOk P l) : EnvSpec P (mkEnv tys l os) := by
  intro f sp hs
  exact h _ (look_mem hs)
theorem envTy_mk {P : Program} {tys : List (Nat × TI)} {l : List (Nat × Spec)} {os : List (Nat × List OutK)} (h : tys.map (fun x => tiOf P x.1 x.2.cks) = tys.map fun x => some x.2) : EnvTy P (mkEnv tys l os) := envTy_of rfl h
theorem EnvTy.winS {P : Program} {E : Env} {l : List Nat} (h : EnvTy P E) : EnvTy P (E.winS l) := h
theorem EnvSpec.winS {P : Program} {E : Env} {l : List Nat} (h : EnvSpec P E) : EnvSpec P (E.winS l) := h
theorem EnvTy.paS {P : Program} {E : Env} (h : EnvTy P E) : EnvTy P E.paS := h
theorem EnvTy.peelS {P : Program} {E : Env} {l : List Nat} (h : EnvTy P E) : EnvTy P (E.peelS l) := h
theorem EnvSpec.peelS {P : Program} {E : Env} {l : List Nat} (h : EnvSpec P E) : EnvSpec P (E.peelS l) := h
theorem EnvTy.cutS {P : Program} {E : Env} {l : List (Nat × List Nat)} (h : EnvTy P E) : EnvTy P (E.cutS l) := h
theorem EnvSpec.cutS {P : Program} {E : Env} {l : List (Nat × List Nat)} (h : EnvSpec P E) : EnvSpec P (E.cutS l) := h
theorem EnvSpec.paS {P : Program} {E : Env} (h : EnvSpec P E) : EnvSpec P E.paS := h
end Go.Proofs.Gh
