/- Code whose loops are told by handlers, and whose regions that draw come in a told order. -/
import Derived.Test.YtmpnmcnjhpekaaaGh38
set_option linter.unusedSimpArgs false
namespace Go.Proofs.Gh
open Go

abbrev Kx := Ex → St → Option Res
/-- What is behind a loop: these slots alone. -/
def onlyS (live : List Nat) : Nat → List S → List S
  | _, [] => []
  | i, s :: ss => (bif live.contains i then s else .one .unk) :: onlyS live (i + 1) ss
def St.only (live : List Nat) (σ : St) : St := ⟨onlyS live 0 σ.slots, σ.boxes⟩
def Env.cutTo (E : Env) (id : Nat) (σ : St) : St :=
  match E.cut id with
  | some lv => σ.only lv
  | none => σ
noncomputable def codeL (E : Env) (dr : Nat → OT) (lp : Nat → St → Kx → Option Res) : Code → St → Kx → Option Res
  | .skip, σ, k => k .normal σ
  | .region id ops d, σ, k => bif d then drawK E ops (dr id) σ (fun σ' => k .normal (E.cutTo id σ')) else opsK E ops ops.toList σ (fun σ' => k .normal (E.cutTo id σ'))
  | .seq a b, σ, k => codeL E dr lp a σ fun e σ' => match e with
    | .normal => codeL E dr lp b σ' k
    | e => k e σ'
  | .cond c a b, σ, k => match σ.view c with
    | .one (.v (.bool t)) => bif t then codeL E dr lp a σ k else codeL E dr lp b σ k
    | _ => none
  | .block id body, σ, k => codeL E dr lp body σ fun e σ' => match e with
    | .exit j => if j = id then k .normal σ' else k (.exit j) σ'
    | e => k e σ'
  | .loop body, σ, k => bif E.peel (firstRegion body) then (codeL E dr lp body σ fun e σ' => match e with
    | .normal => lp (firstRegion body) σ' k
    | e => k e σ') else lp (firstRegion body) σ k
  | .exit id, σ, k => k (.exit id) σ
  | .ret, σ, k => k .ret σ
  | _, _, _ => none
def loopL (body : St → Kx → Option Res) (kp lv : List Nat) (n : Nat) : Nat → St → Kx → Option Res
  | 0, _, _ => none
  | m + 1, σ, k => forgetK kp n σ fun σ => body σ fun e σ' => match e with
    | .normal => loopL body kp lv n m σ' k
    | e => k e (σ'.only lv)

/-- What the orders told are worth. -/
def drOk (dr : Nat → OT) : Code → Bool
  | .region id ops d => bif d then drawsGood ops (dr id) else true
  | .seq a b => drOk dr a && drOk dr b
  | .cond _ a b => drOk dr a && drOk dr b
  | .block _ a => drOk dr a
  | .loop a => drOk dr a
  | _ => true
/-- How many boxes a call may bring. -/
def nio : List Mode → Nat
  | [] => 0
  | .ro :: ms => nio ms
  | _ :: ms => nio ms + 1
theorem enter_nio : ∀ (ms : List Mode) (xs : List S) (bs : List Box), (enter ms xs bs).2.length ≤ bs.length + nio ms
  | [], xs, bs => by simp [enter, nio]
  | m :: ms, [], bs => by cases m <;> simp [enter]
  | m :: ms, x :: xs, bs => by
    have h1 := enter_nio ms xs bs
    have h2 := fun b : Box => enter_nio ms xs (bs ++ [b])
    simp only [List.length_append, List.length_cons, List.length_nil] at h2
    cases m with
    | ro => exact h1
    | io =>
      have key : (enter (.io :: ms) (x :: xs) bs).2 = (enter ms xs bs).2 ∨ ∃ b, (enter (.io :: ms) (x :: xs) bs).2 = (enter ms xs (bs ++ [b])).2 := by
        cases x with
        | one c => cases c with
          | sl o nl sz es => cases o with
            | true => exact .inr ⟨_, rfl⟩
            | false => exact .inl rfl
          | bx cs => exact .inr ⟨_, rfl⟩
          | _ => exact .inl rfl
        | agg cs => exact .inr ⟨_, rfl⟩
        | tup ss => exact .inl rfl
      simp only [nio]
      rcases key with e | ⟨b, e⟩
      · rw [e]; omega
      · rw [e]; have := h2 b; omega
    | tk =>
      have key : (enter (.tk :: ms) (x :: xs) bs).2 = (enter ms xs bs).2 ∨ ∃ b, (enter (.tk :: ms) (x :: xs) bs).2 = (enter ms xs (bs ++ [b])).2 := by
        cases x with
        | one c => cases c with
          | sl o nl sz es => cases o with
            | true => exact .inr ⟨_, rfl⟩
            | false => exact .inl rfl
          | _ => exact .inl rfl
        | agg cs => exact .inr ⟨_, rfl⟩
        | tup ss => exact .inl rfl
      simp only [nio]
      rcases key with e | ⟨b, e⟩
      · rw [e]; omega
      · rw [e]; have := h2 b; omega
/-- A handler that tells what a loop does. -/
def LoopOk (P : Program) (n0 N : Nat) (body : Code) (l : St → Kx → Option Res) : Prop :=
  ∀ {B : Base} {γ : Nat → Bx} {st : Nat → Prop} {ow : Nat → Option Ow} {σ : St} {w : World} {a : Act} {r : Res} {k : Kx} {ds : List Deferred} {Q : Exit → Act → World → Prop},
    Rel B γ st ow [] σ a.tmps w → (∀ i y, B.pin i = some y → i < n0) → a.defers = ds → l σ k = some r →
    (∀ e σ' γ' ow' a' w', k e σ' = some r → Rel B γ' st ow' [] σ' a'.tmps w' → a'.defers = ds → Q e.out a' w') → Code.rounds P body Q N a w
def LoopsOk (P : Program) (n0 N : Nat) (lp : Nat → St → Kx → Option Res) : Code → Prop
  | .seq a b => LoopsOk P n0 N lp a ∧ LoopsOk P n0 N lp b
  | .cond _ a b => LoopsOk P n0 N lp a ∧ LoopsOk P n0 N lp b
  | .block _ a => LoopsOk P n0 N lp a
  | .loop a => LoopOk P n0 N a (lp (firstRegion a)) ∧ LoopsOk P n0 N lp a
  | _ => True

section
variable {P : Program} {E : Env} {B : Base} {γ : Nat → Bx} {st : Nat → Prop} {ow : Nat → Option Ow} {hand : List (Value × C)} {σ : St} {w : World} {r : Res} {tmps : Array Value}
theorem onlyS_get (live : List Nat) : ∀ (ss : List S) (i t : Nat) (s : S), (onlyS live i ss)[t]? = some s → ∃ s', ss[t]? = some s' ∧ (s = s' ∨ s = .one .unk)
  | [], i, t, s, h => by simp [onlyS] at h
  | s0 :: ss, i, t, s, h => by
    cases t with
    | zero =>
      simp only [onlyS, List.getElem?_cons_zero, Option.some.injEq] at h
      refine ⟨s0, rfl, ?_⟩
      subst h
      cases live.contains i
      · exact .inr rfl
      · exact .inl rfl
    | succ t => exact onlyS_get live ss (i + 1) t s (by simpa [onlyS] using h)
theorem onlyS_length (live : List Nat) : ∀ (ss : List S) (i : Nat), (onlyS live i ss).length = ss.length
  | [], _ => rfl
  | _ :: ss, i => by simp [onlyS, onlyS_length live ss]
theorem Rel.slotsTo (R : Rel B γ st ow hand σ tmps w) {ss : List S} (hl : ss.length = σ.slots.length) (hs : ∀ (t : Nat) (s : S), ss[t]? = some s → ∃ s', σ.slots[t]? = some s' ∧ (s = s' ∨ s = .one .unk)) : Rel B γ st ow hand ⟨ss, σ.boxes⟩ tmps w := by
  refine ⟨R.tab, R.size.trans hl.symm, fun t s u h hu => ?_, R.cells, R.mem, R.free, R.hands, R.lt, R.stlt, R.chg, R.mine, R.pin⟩
  obtain ⟨s', h1, h2⟩ := hs t s h
  rcases h2 with rfl | rfl
  · exact (R.slots t s u h1 hu).move fun u c h => CellOk.boxes (σ := σ) (σ' := ⟨ss, σ.boxes⟩) rfl h
  · exact .one _ _ (.unk _)
theorem Rel.only (R : Rel B γ st ow hand σ tmps w) (live : List Nat) : Rel B γ st ow hand (σ.only live) tmps w :=
  R.slotsTo (onlyS_length live _ _) (fun t s h => onlyS_get live _ 0 t s h)

theorem Rel.cutTo (R : Rel B γ st ow hand σ tmps w) (E : Env) (id : Nat) : Rel B γ st ow hand (E.cutTo id σ) tmps w := by
  unfold Env.cutTo
  split
  · exact R.only _
  · exact R
theorem codeL_wp (hm : P.follows .mixedOrders = true) (hE : EnvTy P E) (hS : EnvSpec P E) {dr : Nat → OT} {lp : Nat → St → Kx → Option Res} {ds : List Deferred} {n0 N : Nat} (hpin : ∀ i y, B.pin i = some y → i < n0) : ∀ (c : Code) {Q : Exit → Act → World → Prop} {γ : Nat → Bx} {ow : Nat → Option Ow} {σ : St} {a : Act} {w : World} {k : Kx},
    drOk dr c = true → LoopsOk P n0 N lp c → Rel B γ st ow [] σ a.tmps w → a.defers = ds → codeL E dr lp c σ k = some r →
    (∀ e σ' γ' ow' a' w', k e σ' = some r → Rel B γ' st ow' [] σ' a'.tmps w' → a'.defers = ds → Q e.out a' w') → c.wp P Q a w
  | .skip, Q, γ, ow, σ, a, w, k, hdr, hlp, R, hd, h, hQ => wp_skip (hQ .normal _ _ _ _ _ h R hd)
  | .region id ops d, Q, γ, ow, σ, a, w, k, hdr, hlp, R, hd, h, hQ => by
    simp only [codeL] at h
    simp only [drOk] at hdr
    cases d with
    | true =>
      simp only [cond_true] at h hdr
      exact draw_wp hm hE hS hdr R h fun σ' γ' ow' a' w' hk R' hd' => hQ .normal _ _ _ _ _ hk (R'.cutTo E id) (hd'.trans hd)
    | false =>
      simp only [cond_false] at h
      refine wp_region ?_
      have := opsK_wp (Q := Q) (ops_ok hE hS) ops.toList 0 (a := a) (by simp) R hd h fun σ' γ' ow' a' w' hk R' hd' => hQ .normal _ _ _ _ _ hk (R'.cutTo E id) hd'
      simpa [List.range_eq_range'] using this
  | .seq x y, Q, γ, ow, σ, a, w, k, hdr, hlp, R, hd, h, hQ => by
    simp only [codeL] at h
    simp only [drOk, Bool.and_eq_true] at hdr
    refine wp_seq (codeL_wp hm hE hS hpin x hdr.1 hlp.1 R hd h fun e σ' γ' ow' a' w' hk R' hd' => ?_)
    cases e with
    | normal => exact codeL_wp hm hE hS hpin y hdr.2 hlp.2 R' hd' hk hQ
    | exit id => exact hQ (.exit id) _ _ _ _ _ hk R' hd'
    | ret => exact hQ .ret _ _ _ _ _ hk R' hd'
  | .cond c x y, Q, γ, ow, σ, a, w, k, hdr, hlp, R, hd, h, hQ => by
    simp only [codeL] at h
    simp only [drOk, Bool.and_eq_true] at hdr
    split at h
    · rename_i t ht
      have hc := slot_bool (ht ▸ R.view c)
      cases t with
      | true => exact wp_cond hc (codeL_wp hm hE hS hpin x hdr.1 hlp.1 R hd h hQ)
      | false => exact wp_cond hc (codeL_wp hm hE hS hpin y hdr.2 hlp.2 R hd h hQ)
    · cases h
  | .block id x, Q, γ, ow, σ, a, w, k, hdr, hlp, R, hd, h, hQ => by
    simp only [codeL] at h
    simp only [drOk] at hdr
    refine wp_block (codeL_wp hm hE hS hpin x hdr hlp R hd h fun e σ' γ' ow' a' w' hk R' hd' => ?_)
    cases e with
    | normal => exact hQ .normal _ _ _ _ _ hk R' hd'
    | exit j =>
      simp only at hk
      by_cases e : j = id
      · rw [if_pos e] at hk
        simp only [Ex.out, Exit.inBlock, e, if_true]
        exact hQ .normal _ _ _ _ _ hk R' hd'
      · rw [if_neg e] at hk
        simp only [Ex.out, Exit.inBlock, e, if_false]
        exact hQ (.exit j) _ _ _ _ _ hk R' hd'
    | ret => exact hQ .ret _ _ _ _ _ hk R' hd'
  | .loop x, Q, γ, ow, σ, a, w, k, hdr, hlp, R, hd, h, hQ => by
    simp only [codeL] at h
    simp only [drOk] at hdr
    cases hp : E.peel (firstRegion x) with
    | false =>
      rw [hp, cond_false] at h
      exact wp_loop_rounds N (hlp.1 R hpin hd h hQ)
    | true =>
      rw [hp, cond_true] at h
      refine wp_loop_rounds (N + 1) ?_
      rw [rounds_succ]
      refine codeL_wp hm hE hS hpin x hdr hlp.2 R hd h fun e σ' γ' ow' a' w' hk R' hd' => ?_
      cases e with
      | normal => exact hlp.1 R' hpin hd' hk hQ
      | exit id => exact hQ (.exit id) _ _ _ _ _ hk R' hd'
      | ret => exact hQ .ret _ _ _ _ _ hk R' hd'
  | .exit id, Q, γ, ow, σ, a, w, k, hdr, hlp, R, hd, h, hQ => wp_exit (hQ (.exit id) _ _ _ _ _ h R hd)
  | .ret, Q, γ, ow, σ, a, w, k, hdr, hlp, R, hd, h, hQ => wp_ret (hQ .ret _ _ _ _ _ h R hd)
  | .scope _, Q, γ, ow, σ, a, w, k, hdr, hlp, R, hd, h, hQ => by simp [codeL] at h
  | .label _, Q, γ, ow, σ, a, w, k, hdr, hlp, R, hd, h, hQ => by simp [codeL] at h
  | .goto _, Q, γ, ow, σ, a, w, k, hdr, hlp, R, hd, h, hQ => by simp [codeL] at h
  | .refuse _, Q, γ, ow, σ, a, w, k, hdr, hlp, R, hd, h, hQ => by simp [codeL] at h
  | .rangeFunc .., Q, γ, ow, σ, a, w, k, hdr, hlp, R, hd, h, hQ => by simp [codeL] at h

end

/-! ### Rounds, told by a round -/
def iterL {V : Type} (fb : (V → Option Res) → V → Option Res) : Nat → V → Option Res
  | 0, _ => none
  | m + 1, v => fb (iterL fb m) v

theorem homesC_lin : ∀ (cs : List C) (σ : St), (∀ k, homesC σ cs k = none) ∨ ∃ cs' σ', ∀ k, homesC σ cs k = k cs' σ'
  | [], σ => .inr ⟨[], σ, fun _ => rfl⟩
  | c :: cs, σ => by
    have h1 : ∃ c' σ', ∀ k, σ.homeC c k = k c' σ' := by
      unfold St.homeC
      split
      · exact ⟨_, _, fun _ => rfl⟩
      · exact ⟨_, _, fun _ => rfl⟩
      · exact ⟨_, _, fun _ => rfl⟩
    obtain ⟨c', σ', h1⟩ := h1
    rcases homesC_lin cs σ' with h | ⟨cs', σ2, h⟩
    · exact .inl fun k => by simp only [homesC, h1, h]
    · exact .inr ⟨_, _, fun k => by simp only [homesC, h1, h]; rfl⟩
mutual
theorem homeS_lin : ∀ (s : S) (σ : St), (∀ k, σ.homeS s k = none) ∨ ∃ s' σ', ∀ k, σ.homeS s k = k s' σ'
  | .one c, σ => by
    have h1 : ∃ c' σ', ∀ k, σ.homeC c k = k c' σ' := by
      unfold St.homeC
      split
      · exact ⟨_, _, fun _ => rfl⟩
      · exact ⟨_, _, fun _ => rfl⟩
      · exact ⟨_, _, fun _ => rfl⟩
    obtain ⟨c', σ', h1⟩ := h1
    exact .inr ⟨_, _, fun k => by simp only [St.homeS, h1]; rfl⟩
  | .agg cs, σ => by
    rcases homesC_lin cs σ with h | ⟨cs', σ', h⟩
    · exact .inl fun k => by simp only [St.homeS, h]
    · exact .inr ⟨_, _, fun k => by simp only [St.homeS, h]; rfl⟩
  | .tup ss, σ => by
    rcases homesS_lin ss σ with h | ⟨ss', σ', h⟩
    · exact .inl fun k => by simp only [St.homeS, h]
    · exact .inr ⟨_, _, fun k => by simp only [St.homeS, h]; rfl⟩
theorem homesS_lin : ∀ (ss : List S) (σ : St), (∀ k, σ.homesS ss k = none) ∨ ∃ ss' σ', ∀ k, σ.homesS ss k = k ss' σ'
  | [], σ => .inr ⟨[], σ, fun _ => by simp only [St.homesS]⟩
  | s :: ss, σ => by
    rcases homeS_lin s σ with h | ⟨s', σ', h⟩
    · exact .inl fun k => by simp only [St.homesS, h]
    · rcases homesS_lin ss σ' with h2 | ⟨ss', σ2, h2⟩
      · exact .inl fun k => by simp only [St.homesS, h, h2]
      · exact .inr ⟨_, _, fun k => by simp only [St.homesS, h, h2]; rfl⟩
end
theorem placeK_lin : ∀ (l : List (Nat × S)) (σ : St), (∀ k, placeK l σ k = none) ∨ ∃ σ', ∀ k, placeK l σ k = k σ'
  | [], σ => .inr ⟨σ, fun _ => rfl⟩
  | (t, s) :: l, σ => by
    rcases homeS_lin s σ with h | ⟨s', σ', h⟩
    · exact .inl fun k => by simp only [placeK, h]
    · rcases placeK_lin l (σ'.assign t s') with h2 | ⟨σ2, h2⟩
      · exact .inl fun k => by simp only [placeK, h, h2]
      · exact .inr ⟨_, fun k => by simp only [placeK, h, h2]; rfl⟩
theorem pullC_lin (n : Nat) (c : C) (σ : St) : (∀ k, pullC n σ c k = none) ∨ ∃ c' σ', ∀ k, pullC n σ c k = k c' σ' := by
  unfold pullC
  split
  · split
    · split
      · simp only [nodeK_eq]
        generalize σ.nodeC _ = x
        cases x with
        | none => exact .inl fun k => rfl
        | some d =>
          simp only [Option.bind_some]
          split
          · exact .inr ⟨_, _, fun k => rfl⟩
          · exact .inr ⟨_, _, fun k => rfl⟩
          · exact .inr ⟨_, _, fun k => rfl⟩
      · exact .inr ⟨_, _, fun k => rfl⟩
    · exact .inr ⟨_, _, fun k => rfl⟩
  · split
    · exact .inr ⟨_, _, fun k => rfl⟩
    · exact .inr ⟨_, _, fun k => rfl⟩
  · exact .inr ⟨_, _, fun k => rfl⟩
  · exact .inl fun k => rfl
  · exact .inl fun k => rfl
  · exact .inr ⟨_, _, fun k => rfl⟩
theorem pullsC_lin (n : Nat) : ∀ (cs : List C) (σ : St), (∀ k, pullsC n σ cs k = none) ∨ ∃ cs' σ', ∀ k, pullsC n σ cs k = k cs' σ'
  | [], σ => .inr ⟨[], σ, fun _ => rfl⟩
  | c :: cs, σ => by
    rcases pullC_lin n c σ with h | ⟨c', σ', h⟩
    · exact .inl fun k => by simp only [pullsC, h]
    · rcases pullsC_lin n cs σ' with h2 | ⟨cs', σ2, h2⟩
      · exact .inl fun k => by simp only [pullsC, h, h2]
      · exact .inr ⟨_, _, fun k => by simp only [pullsC, h, h2]; rfl⟩
theorem gatherK_lin (n : Nat) : ∀ (ts : List Nat) (σ : St), (∀ k, gatherK n ts σ k = none) ∨ ∃ l σ', ∀ k, gatherK n ts σ k = k l σ'
  | [], σ => .inr ⟨[], σ, fun _ => rfl⟩
  | t :: ts, σ => by
    have h1 : (∀ k, pullS n σ (σ.slot t) k = none) ∨ ∃ s' σ', ∀ k, pullS n σ (σ.slot t) k = k s' σ' := by
      unfold pullS
      split
      · rename_i c _
        rcases pullC_lin n c σ with h | ⟨c', σ', h⟩
        · exact .inl fun k => by simp only [h]
        · exact .inr ⟨_, _, fun k => by simp only [h]; rfl⟩
      · rename_i cs _
        rcases pullsC_lin n cs σ with h | ⟨cs', σ', h⟩
        · exact .inl fun k => by simp only [h]
        · exact .inr ⟨_, _, fun k => by simp only [h]; rfl⟩
      · exact .inr ⟨_, _, fun k => rfl⟩
    rcases h1 with h | ⟨s', σ', h⟩
    · exact .inl fun k => by simp only [gatherK, h]
    · rcases gatherK_lin n ts σ' with h2 | ⟨l, σ2, h2⟩
      · exact .inl fun k => by simp only [gatherK, h, h2]
      · exact .inr ⟨_, _, fun k => by simp only [gatherK, h, h2]; rfl⟩
/-- What a loop's head forgets is told ahead of what comes. -/
theorem forgetK_lin (kp : List Nat) (n : Nat) (σ : St) : (∀ k, forgetK kp n σ k = none) ∨ ∃ σ', ∀ k, forgetK kp n σ k = k σ' := by
  unfold forgetK
  by_cases hn : n ≤ σ.boxes.length
  · simp only [hn, if_true]
    rcases gatherK_lin n kp σ with h | ⟨l, σ', h⟩
    · exact .inl fun k => by rw [h]
    · rcases placeK_lin l (σ'.trunc n) with h2 | ⟨σ2, h2⟩
      · exact .inl fun k => by rw [h, h2]
      · exact .inr ⟨σ2, fun k => by rw [h, h2]⟩
  · exact .inl fun k => by simp [hn]
theorem forgetK_none (kp : List Nat) (n : Nat) (σ : St) : forgetK kp n σ (fun _ => none) = none := by
  rcases forgetK_lin kp n σ with h | ⟨σ', h⟩ <;> rw [h]
theorem loop_iter {V : Type} {head : V → St} {fb : (V → Option Res) → V → Option Res} {bodyK : St → Kx → Option Res} {kp lv : List Nat} {n : Nat} {k : Kx}
    (hstep : ∀ Kn v, bodyK (head v) (fun e σ' => match e with | .normal => forgetK kp n σ' Kn | e => k e (σ'.only lv)) = fb (fun v' => Kn (head v')) v) :
    ∀ (m : Nat) (v : V) (σ : St), (∀ Kn, forgetK kp n σ Kn = Kn (head v)) → loopL bodyK kp lv n m σ k = iterL fb m v := by
  have key : ∀ (m : Nat) (v : V), bodyK (head v) (fun e σ' => match e with | .normal => loopL bodyK kp lv n m σ' k | e => k e (σ'.only lv)) = iterL fb (m + 1) v := by
    intro m
    induction m with
    | zero =>
      intro v
      have := hstep (fun _ => none) v
      simp only [forgetK_none] at this
      exact this
    | succ m ih =>
      intro v
      have := hstep (fun σ => bodyK σ (fun e σ' => match e with | .normal => loopL bodyK kp lv n m σ' k | e => k e (σ'.only lv))) v
      rw [show iterL fb (m + 1 + 1) v = fb (iterL fb (m + 1)) v from rfl]
      have e : (iterL fb (m + 1)) = fun v' => bodyK (head v') (fun e σ' => match e with | .normal => loopL bodyK kp lv n m σ' k | e => k e (σ'.only lv)) := by
        funext v'; exact (ih v').symm
      rw [e]
      exact this
  intro m v σ h
  cases m with
  | zero => rfl
  | succ m =>
    simp only [loopL]
    rw [h]
    exact key m v
end Go.Proofs.Gh
