/- A function's contract; a body that keeps it. -/
import Derived.Test.YtmpnmcnjhpekaaaGh27
set_option linter.unusedSimpArgs false
namespace Go.Proofs.Gh
open Go.RowKit
section
variable {P : Program} {E : Env} {B : Base} {γ : Nat → Bx} {st : Nat → Prop} {ow : Nat → Option Ow} {hand : List (Value × C)} {σ : St} {w : World} {r : Res} {tmps : Array Value}

/-- A value and what is in the hand of it. -/
inductive ResIs : Value → S → List (Value × C) → Prop
  | one (u c) : ResIs u (.one c) [(u, c)]
  | agg (us : List Value) (cs : List C) : us.length = cs.length → ResIs (.agg us.toArray) (.agg cs) (us.zip cs)
inductive ResAll : List Value → List S → List (Value × C) → Prop
  | nil : ResAll [] [] []
  | cons {u s hs us ss hs'} : ResIs u s hs → ResAll us ss hs' → ResAll (u :: us) (s :: ss) (hs ++ hs')
inductive ResultIs : Value → S → List (Value × C) → Prop
  | one {u s hs} : ResIs u s hs → ResultIs u s hs
  | tup {us : List Value} {ss : List S} {hs} : ResAll us ss hs → ResultIs (.tuple us.toArray) (.tup ss) hs
/-- A pointer to a box of the callee's own, as it comes back. -/
def NewBox (γ' : Nat → Bx) (bs' : List Box) (keeps : Bool) (u : Value) (c : C) : Prop :=
  ∃ r b g o, u = .pointer (some ⟨g, o, none⟩) ∧ c = .bx b.cs ∧ bs'[r]? = some b ∧ b.free = false ∧ b.cs ≠ [] ∧ γ' r = .mem g o ∧ ∀ c ∈ b.cs, c.leaves keeps = true ∧ c.asOwnB = false
inductive ResultNew (γ' : Nat → Bx) (bs' : List Box) (keeps : Bool) : Value → S → List (Value × C) → Prop
  | one {u c} : NewBox γ' bs' keeps u c → ResultNew γ' bs' keeps u (.one c) []
  | tup {u c us ss hs} : NewBox γ' bs' keeps u c → ResAll us ss hs → ResultNew γ' bs' keeps (.tuple (u :: us).toArray) (.tup (.one c :: ss)) hs
/-- THE CONTRACT. -/
def SpecOk (P : Program) (f : FuncId) (sp : Spec) : Prop :=
  ∀ (B : Base) (γ : Nat → Bx) (ow : Nat → Option Ow) (us : List Value) (xs : List S) (r : Res), Rel B γ B.st ow [] ⟨(enter sp.modes xs []).1, (enter sp.modes xs []).2⟩ us.toArray B.w → sp.modes.length = xs.length → sp.run xs = some r →
    Calls P f us.toArray B.w fun e w' => ∃ v hand γ' ow' bs', e = .returned v ∧ (ResultIs v r.1 hand ∨ ((sp.keeps && sp.modes.all Mode.isRo) = true ∧ ResultNew γ' bs' sp.keeps v r.1 hand)) ∧ Rel B γ' B.st ow' hand ⟨[], bs'⟩ #[] w' ∧ r.2 = outs sp.modes xs bs' ∧
      (∀ x ∈ hand, x.2.leaves sp.keeps = true) ∧ (∀ s ∈ r.2, s.leaves sp.keeps = true) ∧ lensOk xs r.2 = true

theorem enter_len : ∀ (ms : List Mode) (xs : List S) (bs : List Box), ms.length = xs.length → (enter ms xs bs).1.length = xs.length
  | [], [], bs, _ => rfl
  | m :: ms, x :: xs, bs, h => by
    have h' : ms.length = xs.length := by simpa using h
    have key : ∀ bs s, (enter (m :: ms) (x :: xs) bs).1 = s :: (enter ms xs bs).1 ∨ True := fun _ _ => .inr trivial
    cases m <;> cases x <;> (try (rename_i c; cases c)) <;> (try (rename_i o _ _ _; cases o)) <;> simp [enter, enter_len ms xs _ h']
  | [], _ :: _, _, h => by simp at h
  | _ :: _, [], _, h => by simp at h
theorem Rel.pad (R : Rel B γ st ow hand σ tmps w) : ∀ n, Rel B γ st ow hand ⟨σ.slots ++ List.replicate n (.one .unk), σ.boxes⟩ (tmps ++ Array.replicate n undef) w
  | 0 => by simpa using R
  | n + 1 => by
    have := (Rel.pad R n).push (s := .one .unk) (u := undef) (.one _ _ (.unk _))
    rw [List.replicate_succ', Array.replicate_succ, ← List.append_assoc]
    simpa using this
def resV (tmps : Array Value) : ResultVar → Sem Value
  | .tmp t => pure (tmps.getD t undef)
  | .cell a t => do loadVar t (← asAddr (tmps.getD a undef))
theorem takeS_ok {u : Value} {s : S} {k : S → St → Option Res} (R : Rel B γ st ow hand σ tmps w) (hs : SlotOk σ st γ w u s) (h : takeS σ s k = some r) :
    ∃ s' σ' ow' hs, k s' σ' = some r ∧ Rel B γ st ow' (hand ++ hs) σ' tmps w ∧ ResIs u s' hs := by
  unfold takeS at h
  split at h
  · rename_i x
    obtain ⟨c', σ1, ow1, h1, R1, _⟩ := R.takeC (slot_one hs).pre h
    exact ⟨_, σ1, ow1, _, h1, R1, .one _ _⟩
  · rename_i xs
    cases hs with
    | agg us _ hl hc =>
      obtain ⟨cs', σ1, ow1, h1, R1, hl1, _⟩ := Rel.takesC xs us R hl (fun i u c hu hc' => (hc i u c hu hc').pre) h
      exact ⟨_, σ1, ow1, _, h1, R1, .agg us cs' hl1⟩
  · cases h
theorem resultK_ok (hE : EnvTy P E) {v : ResultVar} {k : S → St → Option Res} (R : Rel B γ st ow hand σ tmps w) (h : resultK E σ v k = some r) :
    ∃ u s σ' ow' hs, (resV tmps v).run P w = .ok u w ∧ k s σ' = some r ∧ Rel B γ st ow' (hand ++ hs) σ' tmps w ∧ ResIs u s hs := by
  unfold resultK at h
  split at h
  · rename_i t
    have hs : SlotOk σ st γ w (tmps.getD t undef) (σ.slot t) := Rel.view (a := ⟨tmps, []⟩) R (.tmp t)
    obtain ⟨s', σ', ow', hs', h1, h2, h3⟩ := takeS_ok R hs h
    exact ⟨_, s', σ', ow', hs', by simp [resV], h1, h2, h3⟩
  · rename_i b t
    obtain ⟨ad, u, s, hv, hrun, hk, hs⟩ := load_ok (a := ⟨tmps, []⟩) (x := .tmp b) (k := fun s σ => takeS σ s k) hE R h
    obtain ⟨s', σ', ow', hs', h1, h2, h3⟩ := takeS_ok R hs hk
    refine ⟨u, s', σ', ow', hs', ?_, h1, h2, h3⟩
    have hv' : tmps.getD b undef = .pointer (some ad) := hv
    simp only [resV, hv', asAddr, Sem.run_bind, Sem.run_pure, Result.andThen_ok]
    exact hrun w (Ext.refl w)
theorem results_eq (fn : Func) (tmps : Array Value) : results fn tmps = (do let vs ← fn.results.mapM (resV tmps); pure (if h : vs.size = 1 then vs[0] else .tuple vs)) := by
  unfold results
  congr 1
theorem resultsK_ok (hE : EnvTy P E) : ∀ (rs : List ResultVar) {ow : Nat → Option Ow} {hand : List (Value × C)} {σ : St} {k : List S → St → Option Res}, Rel B γ st ow hand σ tmps w → resultsK E σ rs k = some r →
    ∃ us ss σ' ow' hs, k ss σ' = some r ∧ Rel B γ st ow' (hand ++ hs) σ' tmps w ∧ ResAll us ss hs ∧ (rs.mapM (resV tmps)).run P w = .ok us w
  | [], ow, hand, σ, k, R, h => ⟨[], [], σ, ow, [], h, by simpa using R, .nil, by simp⟩
  | v :: rs, ow, hand, σ, k, R, h => by
    unfold resultsK at h
    obtain ⟨u, s, σ1, ow1, hs, hv, h1, R1, hr1⟩ := resultK_ok hE R h
    obtain ⟨us, ss, σ2, ow2, hs2, h2, R2, hr2, hrun⟩ := resultsK_ok hE rs R1 h1
    refine ⟨u :: us, s :: ss, σ2, ow2, hs ++ hs2, h2, by rw [← List.append_assoc]; exact R2, .cons hr1 hr2, ?_⟩
    simp only [List.mapM_cons, Sem.run_bind, hv, hrun, Result.andThen_ok, Sem.run_pure]
theorem leaves_hand {keeps : Bool} {u : Value} {s : S} {hs : List (Value × C)} (h : ResIs u s hs) (hl : s.leaves keeps = true) (hnb : ∀ x ∈ hs, ∀ cs, x.2 ≠ .bx cs) : ∀ x ∈ hs, x.2.leaves keeps = true := by
  cases h with
  | one _ c =>
    intro x hx
    have : x = (u, c) := by simpa using hx
    subst this
    cases c with
    | bx cs => exact absurd rfl (hnb _ hx cs)
    | _ => exact hl
  | agg us cs h =>
    intro x hx
    simp only [S.leaves] at hl
    exact List.all_eq_true.1 hl _ (List.of_mem_zip hx).2
theorem leaves_all {keeps : Bool} {us : List Value} {ss : List S} {hs : List (Value × C)} (h : ResAll us ss hs) (hl : ss.all (S.leaves keeps) = true) (hnb : ∀ x ∈ hs, ∀ cs, x.2 ≠ .bx cs) : ∀ x ∈ hs, x.2.leaves keeps = true := by
  induction h with
  | nil => simp
  | cons h1 _ ih =>
    simp only [List.all_cons, Bool.and_eq_true] at hl
    intro x hx
    rcases List.mem_append.1 hx with hx | hx
    · exact leaves_hand h1 hl.1 (fun x hx => hnb x (List.mem_append_left _ hx)) x hx
    · exact ih hl.2 (fun x hx => hnb x (List.mem_append_right _ hx)) x hx
theorem Rep.notBx {n : Nat} {u : Value} {c : C} {X : Nat → Prop} (h : Rep st γ w n u c X) : ∀ cs, c ≠ .bx cs := by
  intro cs e; subst e; cases h
theorem Rel.addFree (R : Rel B γ st ow hand σ tmps w) (hs : List (Value × C)) (h : ∀ x ∈ hs, Rep st γ w σ.boxes.length x.1 x.2 (fun _ => False)) : Rel B γ st ow (hand ++ hs) σ tmps w :=
  ⟨R.tab, R.size, R.slots, R.cells, R.mem, R.free, fun i x hx => by
    by_cases hi : i < hand.length
    · rw [List.getElem?_append_left hi] at hx
      exact R.hands i x hx
    · rw [List.getElem?_append_right (by omega)] at hx
      exact (h x (List.mem_of_getElem? hx)).mono fun b hb => hb.elim, R.lt, R.stlt, R.chg, R.mine, R.pin⟩
/-- The end of a body. -/
theorem leaveK_ok (hE : EnvTy P E) {fn : Func} {keeps : Bool} {modes : List Mode} {xs : List S} {B : Base} {γ : Nat → Bx} {ow : Nat → Option Ow} {σ : St} {tmps : Array Value} {w : World} (R' : Rel B γ B.st ow [] σ tmps w) (hk : leaveK E keeps fn.results.toList modes xs σ = some r) :
    ∃ v, (results fn tmps).run P w = .ok v w ∧ ∃ v' hand γ2 ow2 bs', (Ending.returned v) = .returned v' ∧ (ResultIs v' r.1 hand ∨ ((keeps && modes.all Mode.isRo) = true ∧ ResultNew γ2 bs' keeps v' r.1 hand)) ∧ Rel B γ2 B.st ow2 hand ⟨[], bs'⟩ #[] w ∧ r.2 = outs modes xs bs' ∧
      (∀ x ∈ hand, x.2.leaves keeps = true) ∧ (∀ s ∈ r.2, s.leaves keeps = true) ∧ lensOk xs r.2 = true := by
  unfold leaveK at hk
  obtain ⟨vs, ss, σ2, ow2, hs, h2, R2, hres, hrun⟩ := resultsK_ok hE fn.results.toList R' hk
  have hrun' : (results fn tmps).run P w = .ok (if h : vs.toArray.size = 1 then vs.toArray[0] else .tuple vs.toArray) w := by
    rw [results_eq, Array.mapM_eq_mapM_toList]
    simp [hrun]
  have hnb : ∀ x ∈ hs, ∀ cs, x.2 ≠ .bx cs := fun x hx => by
    obtain ⟨i, hi⟩ := List.getElem?_of_mem hx
    exact (R2.hands i x (by simpa using hi)).notBx
  unfold headBox at h2
  split at h2
  · rename_i r0 ss'
    rw [Option.bind_eq_some_iff] at h2
    obtain ⟨b, hb, h2⟩ := h2
    split at h2
    · rename_i hc
      simp only [Bool.and_eq_true, Bool.not_eq_true'] at hc
      obtain ⟨⟨⟨⟨hkp, hro⟩, hfr⟩, hne⟩, hall⟩ := hc
      dsimp only at h2
      split at h2
      · rename_i hlv
        simp only [Bool.and_eq_true, List.all_cons] at hlv
        cases h2
        cases hres with
        | @cons u _ hs1 us _ hs2 h1 h3 =>
          cases h1
          have hh := R2.hands 0 _ rfl
          cases hh with
          | box _ _ _ g o _ hr hg =>
            obtain ⟨ow3, R3⟩ := Rel.rot (hand := []) (A := [(.pointer (some ⟨g, o + 0, none⟩), .pl ⟨r0, 0, []⟩)]) (D := hs2) (by simpa using R2)
            obtain ⟨ow4, R4⟩ := R3.drop
            have hlh := leaves_all h3 hlv.1.1.2 (fun x hx => hnb x (by simp [hx]))
            have hnew : NewBox γ σ2.boxes keeps (.pointer (some ⟨g, o + 0, none⟩)) (.bx b.cs) :=
              ⟨r0, b, g, o, rfl, rfl, hb, hfr, by simpa using hne, hg, fun c hc => by
                have := List.all_eq_true.1 hall c hc
                simpa using this⟩
            refine ⟨_, hrun', _, hs2, γ, ow4, σ2.boxes, rfl, .inr ⟨by simp [hkp, hro], ?_⟩, by simpa using R4.noSlots, rfl, hlh, fun s hs => List.all_eq_true.1 hlv.1.2 s hs, hlv.2⟩
            cases h3 with
            | nil => exact .one hnew
            | cons h5 h6 =>
              simp only [S.pack]
              rw [dif_neg (by simp)]
              exact .tup hnew (.cons h5 h6)
      · cases h2
    · cases h2
  · dsimp only at h2
    split at h2
    · rename_i hlv
      simp only [Bool.and_eq_true] at hlv
      cases h2
      have hlh := leaves_all hres hlv.1.1 hnb
      refine ⟨_, hrun', _, hs, γ, ow2, σ2.boxes, rfl, .inl ?_, by simpa using R2.noSlots, rfl, hlh, fun s hs => List.all_eq_true.1 hlv.1.2 s hs, hlv.2⟩
      cases hres with
      | nil => exact .tup .nil
      | cons h1 h2 =>
        cases h2 with
        | nil =>
          simp only [S.pack, List.append_nil]
          exact .one (by simpa using h1)
        | cons h3 h4 =>
          simp only [S.pack]
          rw [dif_neg (by simp)]
          exact .tup (.cons h1 (.cons h3 h4))
    · cases h2
/-- A body keeps its contract. -/
theorem funcK_ok (hE : EnvTy P E) (hO : OpsOk P E) {draws : Array Oper → Bool} (hD : DrawsOk P E draws) {keep : Nat → List Nat} {f : FuncId} {fn : Func} {keeps : Bool} {modes : List Mode} (hf : P.funcs[f]? = some fn) (m : Nat) :
    SpecOk P f ⟨modes, keeps, funcK E draws keep keeps m modes fn⟩ := by
  intro B γ ow us xs r R hlen h
  simp only [funcK] at h
  split at h
  · rename_i c hb
    rw [if_pos hlen] at h
    · have hsz : us.length = xs.length := by
        have := R.size
        simp only [List.size_toArray] at this
        rw [this]; exact enter_len _ _ _ hlen
      refine calls_of_wp hf hb (codeK_wp (B := B) (st := B.st) (γ := γ) (ow := ow) hO hD forget_ok c (ds := []) (Q := bodyPost P fn _) (σ := ⟨(enter modes xs []).1 ++ List.replicate (fn.ntmps - xs.length) (.one .unk), (enter modes xs []).2⟩) ?_ rfl h ?_)
      · have := R.pad (fn.ntmps - xs.length)
        simpa [hsz] using this
      · intro e σ' γ' ow' a' w' hk R' hd
        have key := fun hk => leaveK_ok (r := r) (fn := fn) (keeps := keeps) (modes := modes) (xs := xs) hE R' hk
        cases e with
        | normal => obtain ⟨v, h1, h2⟩ := key hk; exact ⟨hd, v, h1, h2⟩
        | exit id => simp at hk
        | ret => obtain ⟨v, h1, h2⟩ := key hk; exact ⟨hd, v, h1, h2⟩
  · cases h
end
end Go.Proofs.Gh
