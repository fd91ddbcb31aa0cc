/- A call's result comes home. -/
import Derived.Test.YtmpnmcnjhpekaaaGh33
set_option linter.unusedSimpArgs false
namespace Go.Proofs.Gh
open Go.RowKit
section
variable {P : Program} {E : Env} {B : Base} {γ γ3 : Nat → Bx} {st st' : Nat → Prop} {ow : Nat → Option Ow} {hand : List (Value × C)} {σ σ0 σ1 : St} {w w' : World} {r : Res} {tmps : Array Value}

theorem shapeC_id {ck : CK} {c : C} {k : C → Option Res} (hck : ∀ n, ck ≠ .sl n) (h : shapeC ck c k = some r) : k c = some r := by
  cases ck with
  | int ki =>
    simp only [shapeC, Option.bind_eq_some_iff] at h
    obtain ⟨n, hn, h⟩ := h
    unfold C.asInt at hn
    split at hn
    · split at hn
      · rename_i e; subst e; cases hn; exact h
      · cases hn
    · cases hn
  | bool =>
    simp only [shapeC, Option.bind_eq_some_iff] at h
    obtain ⟨n, hn, h⟩ := h
    unfold C.asBool at hn
    split at hn
    · cases hn; exact h
    · cases hn
  | str =>
    simp only [shapeC, Option.bind_eq_some_iff] at h
    obtain ⟨n, hn, h⟩ := h
    unfold C.asStr at hn
    split at hn
    · cases hn; exact h
    · cases hn
  | sl n => exact absurd rfl (hck n)
  | other => exact h
theorem shapeRes_id : ∀ (cks : List CK) (cs : List C) {k : List C → Option Res}, cs.length = cks.length → shapeRes cks cs k = some r → k cs = some r
  | [], cs, k, hl, h => by
    have : cs = [] := List.eq_nil_of_length_eq_zero hl
    subst this; simpa [shapeRes] using h
  | ck :: cks, [], k, hl, h => by simp at hl
  | ck :: cks, c :: cs, k, hl, h => by
    have hl' : cs.length = cks.length := by simpa using hl
    by_cases hck : ∃ n, ck = .sl n
    · obtain ⟨n, rfl⟩ := hck
      simp only [shapeRes, List.head?_cons, Option.bind_some, List.tail_cons, Option.bind_eq_some_iff] at h
      obtain ⟨d, hd, h⟩ := h
      have := shapeRes_id cks cs hl' h
      unfold C.asOwn at hd
      split at hd
      · split at hd
        · rename_i e; subst e; cases hd; exact this
        · cases hd
      · cases hd
    · have hno : ∀ n, ck ≠ .sl n := fun n e => hck ⟨n, e⟩
      have h' : (shapeC ck c fun c' => shapeRes cks cs fun cs' => k (c' :: cs')) = some r := by
        cases ck with
        | sl n => exact absurd rfl (hno n)
        | _ => simpa [shapeRes] using h
      exact shapeRes_id cks cs hl' (shapeC_id hno h')
theorem shapeOne_id {i : TI} {s : S} {k : S → Option Res} (h : shapeOneK i s k = some r) : k s = some r := by
  unfold shapeOneK at h
  rw [Option.bind_eq_some_iff] at h
  obtain ⟨cs, hcs, h⟩ := h
  split at h
  · rename_i hl
    have := shapeRes_id _ _ hl h
    cases s with
    | one x =>
      simp only [S.cells?] at hcs
      split at hcs
      · cases hcs
      · rename_i ha
        cases hcs
        simpa [S.mk, ha] using this
    | agg xs =>
      simp only [S.cells?] at hcs
      split at hcs
      · rename_i ha
        cases hcs
        simpa [S.mk, ha] using this
      · cases hcs
    | tup ss => simp [S.cells?] at hcs
  · cases h
theorem bound_id {t : TypeId} {k : TI → Option Res} (h : bound E t k = some r) : ∃ i, k i = some r := by
  unfold bound at h
  split at h
  · split at h
    · cases h
    · exact ⟨_, h⟩
  · cases h
theorem shapeParts_id : ∀ (ts : List TypeId) (ss : List S) {k : List S → Option Res}, ss.length = ts.length → shapePartsK E ts ss k = some r → k ss = some r
  | [], ss, k, hl, h => by
    have : ss = [] := List.eq_nil_of_length_eq_zero hl
    subst this; simpa [shapePartsK] using h
  | t :: ts, [], k, hl, h => by simp at hl
  | t :: ts, s :: ss, k, hl, h => by
    simp only [shapePartsK, List.head?_cons, Option.bind_some, List.tail_cons] at h
    obtain ⟨i, h⟩ := bound_id h
    exact shapeParts_id ts ss (by simpa using hl) (shapeOne_id h)
theorem shapeS_id {t : TypeId} {s : S} {k : S → Option Res} (h : shapeSK E t s k = some r) : k s = some r := by
  unfold shapeSK at h
  split at h
  · split at h
    · rw [Option.bind_eq_some_iff] at h
      obtain ⟨ss, hss, h⟩ := h
      split at h
      · rename_i hl
        have := shapeParts_id _ _ hl h
        cases s with
        | tup xs => cases hss; exact this
        | one => cases hss
        | agg => cases hss
      · cases h
    · exact shapeOne_id h
  · cases h
theorem homeRes {u : Value} {s : S} {hs : List (Value × C)} (hr : ResIs u s hs) {k : S → St → Option Res} (R : Rel B γ st ow (hand ++ hs) σ tmps w) (h : σ.homeS s k = some r) :
    ∃ s' σ' γ' ow', k s' σ' = some r ∧ Rel B γ' st ow' hand σ' tmps w ∧ SlotOk σ' st γ' w u s' ∧ (∀ u s, SlotOk σ st γ w u s → SlotOk σ' st γ' w u s) ∧ σ'.slots = σ.slots := by
  cases hr with
  | one _ c =>
    obtain ⟨ow1, R1, hc⟩ := Rel.shed [c] [u] (by simpa using R) rfl
    exact Rel.homeH (.one u c) R1 hc h
  | agg us cs hl =>
    obtain ⟨ow1, R1, hc⟩ := Rel.shed cs us R hl
    exact Rel.homeH (.agg us cs hl) R1 hc h
theorem homeAll {us : List Value} {ss : List S} {hs : List (Value × C)} (hr : ResAll us ss hs) : ∀ {γ : Nat → Bx} {ow : Nat → Option Ow} {σ : St} {hand : List (Value × C)} {k : List S → St → Option Res}, Rel B γ st ow (hand ++ hs) σ tmps w → σ.homesS ss k = some r →
    ∃ ss' σ' γ' ow', k ss' σ' = some r ∧ Rel B γ' st ow' hand σ' tmps w ∧ us.length = ss'.length ∧ (∀ (i : Nat) (u : Value) (s : S), us[i]? = some u → ss'[i]? = some s → SlotOk σ' st γ' w u s) ∧ (∀ u s, SlotOk σ st γ w u s → SlotOk σ' st γ' w u s) := by
  induction hr with
  | nil =>
    intro γ ow σ hand k R h
    simp only [St.homesS] at h
    exact ⟨[], σ, γ, ow, h, by simpa using R, rfl, by simp, fun _ _ h => h⟩
  | @cons u s hs us ss hs' h1 _ ih =>
    intro γ ow σ hand k R h
    simp only [St.homesS] at h
    obtain ⟨ow1, R1⟩ := Rel.rot (hand := hand) (A := hs) (D := hs') (by rw [List.append_assoc]; exact R)
    obtain ⟨s', σ2, γ2, ow2, h2, R2, hs2, hk2, _⟩ := homeRes h1 R1 h
    obtain ⟨ss', σ3, γ3, ow3, h3, R3, hl3, hs3, hk3⟩ := ih R2 h2
    refine ⟨s' :: ss', σ3, γ3, ow3, h3, R3, by simpa using hl3, fun i u' s'' hu hs => ?_, fun u s h => hk3 u s (hk2 u s h)⟩
    cases i with
    | zero => simp only [List.getElem?_cons_zero, Option.some.injEq] at hu hs; subst hu hs; exact hk3 _ _ hs2
    | succ i => exact hs3 i u' s'' (by simpa using hu) (by simpa using hs)
theorem homeResult {v : Value} {s : S} {hs : List (Value × C)} (hr : ResultIs v s hs) {k : S → St → Option Res} (R : Rel B γ st ow (hand ++ hs) σ tmps w) (h : σ.homeS s k = some r) :
    ∃ s' σ' γ' ow', k s' σ' = some r ∧ Rel B γ' st ow' hand σ' tmps w ∧ SlotOk σ' st γ' w v s' := by
  cases hr with
  | one h1 =>
    obtain ⟨s', σ', γ', ow', h2, R2, hs2, _⟩ := homeRes h1 R h
    exact ⟨s', σ', γ', ow', h2, R2, hs2⟩
  | @tup us ss _ h1 =>
    simp only [St.homeS] at h
    obtain ⟨ss', σ', γ', ow', h2, R2, hl2, hs2, _⟩ := homeAll h1 R h
    exact ⟨_, σ', γ', ow', h2, R2, .tup us ss' hl2 hs2⟩
theorem zip_cell {us : List Value} {cs : List C} {q : Nat} {x : Value × C} (h : (us.zip cs)[q]? = some x) : us[q]? = some x.1 ∧ cs[q]? = some x.2 := by
  rwa [List.getElem?_zip_eq_some] at h
/-- What comes back, cell by cell. -/
theorem backs_get {keeps : Bool} {val : Nat → Nat → List Value} : ∀ (ms : List Mode) (zs : List S) (bs : List Box) (j i : Nat) (row : List (Value × C)), (backs val ms zs bs j)[i]? = some row → (∀ s ∈ outs ms zs bs, s.leaves keeps = true) → (∀ (i q : Nat) (b : Box) (c : C), bs[i]? = some b → b.cs[q]? = some c → ∀ cs, c ≠ .bx cs) →
    ∀ (q : Nat) (x : Value × C), row[q]? = some x → ∃ b, bs[i]? = some b ∧ b.cs[q]? = some x.2 ∧ (val (j + i) b.cs.length)[q]? = some x.1 ∧ x.2.leaves keeps = true
  | [], zs, bs, j, i, row, h, hlv, hnb => by simp [backs] at h
  | m :: ms, [], bs, j, i, row, h, hlv, hnb => by cases m <;> simp [backs] at h
  | m :: ms, z :: zs, bs, j, i, row, h, hlv, hnb => by
    have skip : outs (m :: ms) (z :: zs) bs = .one .unk :: outs ms zs bs → backs val (m :: ms) (z :: zs) bs j = backs val ms zs bs j →
        ∀ (q : Nat) (x : Value × C), row[q]? = some x → ∃ b, bs[i]? = some b ∧ b.cs[q]? = some x.2 ∧ (val (j + i) b.cs.length)[q]? = some x.1 ∧ x.2.leaves keeps = true := fun e1 e2 => by
      rw [e2] at h
      rw [e1] at hlv
      exact backs_get ms zs bs j i row h (fun s hs => hlv s (List.mem_cons_of_mem _ hs)) hnb
    have box : ∀ (b : Box) (bs' : List Box) (row0 : List (Value × C)) (o : S), bs = b :: bs' → backs val (m :: ms) (z :: zs) bs j = row0 :: backs val ms zs bs' (j + 1) → outs (m :: ms) (z :: zs) bs = o :: outs ms zs bs' →
        (o.leaves keeps = true → ∀ (q : Nat) (x : Value × C), row0[q]? = some x → b.cs[q]? = some x.2 ∧ (val j b.cs.length)[q]? = some x.1 ∧ x.2.leaves keeps = true) →
        ∀ (q : Nat) (x : Value × C), row[q]? = some x → ∃ b, bs[i]? = some b ∧ b.cs[q]? = some x.2 ∧ (val (j + i) b.cs.length)[q]? = some x.1 ∧ x.2.leaves keeps = true := fun b bs' row0 o e0 e1 e2 e3 q x hx => by
      rw [e1] at h
      rw [e2] at hlv
      cases i with
      | zero =>
        simp only [List.getElem?_cons_zero, Option.some.injEq] at h
        subst h
        exact ⟨b, by rw [e0]; rfl, e3 (hlv o (by simp)) q x hx⟩
      | succ i =>
        obtain ⟨b', h1, h2, h3, h4⟩ := backs_get ms zs bs' (j + 1) i row (by simpa using h) (fun s hs => hlv s (List.mem_cons_of_mem _ hs)) (fun i q b' c hb hc => hnb (i + 1) q b' c (by rw [e0]; simpa using hb) hc) q x hx
        exact ⟨b', by rw [e0]; simpa using h1, h2, by rwa [show j + (i + 1) = j + 1 + i by omega], h4⟩
    have hall : ∀ {b : Box} {q : Nat} {x : Value × C}, b.cs.all (C.leaves keeps) = true → ((val j b.cs.length).zip b.cs)[q]? = some x → b.cs[q]? = some x.2 ∧ (val j b.cs.length)[q]? = some x.1 ∧ x.2.leaves keeps = true := fun {b q x} ha hx => by
      obtain ⟨h1, h2⟩ := zip_cell hx
      exact ⟨h2, h1, List.all_eq_true.1 ha _ (List.mem_of_getElem? h2)⟩
    cases m with
    | ro => exact skip outs_ro backs_ro
    | io =>
      cases z with
      | one c =>
        cases c with
        | sl o nl sz es =>
          cases o with
          | false => exact skip (by cases bs <;> simp [outs]) (by cases bs <;> simp [backs])
          | true =>
            cases bs with
            | nil => exact skip (by simp [outs]) (by simp [backs])
            | cons b bs =>
              refine box b bs (((val j b.cs.length).zip b.cs).take 1) (.one (b.cs.headD .unk)) rfl (by simp only [backs]) (by simp only [outs]) fun ho q x hx => ?_
              cases q with
              | succ q => rw [List.getElem?_take, if_neg (by omega)] at hx; cases hx
              | zero =>
                rw [List.getElem?_take_of_lt (by omega)] at hx
                obtain ⟨h1, h2⟩ := zip_cell hx
                refine ⟨h2, h1, ?_⟩
                have hd : b.cs.headD .unk = x.2 := by
                  cases hb : b.cs with
                  | nil => rw [hb] at h2; simp at h2
                  | cons c0 cs => rw [hb] at h2; simpa using h2
                rw [hd] at ho
                have hx2 := hnb 0 0 b x.2 rfl h2
                generalize x.2 = c at ho hx2
                cases c with
                | bx cs => exact absurd rfl (hx2 cs)
                | _ => exact ho
        | bx cs =>
          cases bs with
          | nil => exact skip (by simp [outs]) (by simp [backs])
          | cons b bs => exact box b bs ((val j b.cs.length).zip b.cs) (.one (.bx b.cs)) rfl (by simp only [backs]) (by simp only [outs]) fun ho q x hx => hall ho hx
        | _ => exact skip (by cases bs <;> simp [outs]) (by cases bs <;> simp [backs])
      | agg cs =>
        cases bs with
        | nil => exact skip (by simp [outs]) (by simp [backs])
        | cons b bs => exact box b bs ((val j b.cs.length).zip b.cs) (.agg b.cs) rfl (by simp only [backs]) (by simp only [outs]) fun ho q x hx => hall ho hx
      | tup ss => exact skip (by cases bs <;> simp [outs]) (by cases bs <;> simp [backs])
    | tk =>
      cases z with
      | one c =>
        cases c with
        | sl o nl sz es =>
          cases o with
          | false => exact skip (by cases bs <;> simp [outs]) (by cases bs <;> simp [backs])
          | true =>
            cases bs with
            | nil => exact skip (by simp [outs]) (by simp [backs])
            | cons b bs => exact box b bs [] (.one .unk) rfl (by simp only [backs]) (by simp only [outs]) fun ho q x hx => by simp at hx
        | _ => exact skip (by cases bs <;> simp [outs]) (by cases bs <;> simp [backs])
      | agg cs =>
        cases bs with
        | nil => exact skip (by simp [outs]) (by simp [backs])
        | cons b bs => exact box b bs [] (.one .unk) rfl (by simp only [backs]) (by simp only [outs]) fun ho q x hx => by simp at hx
      | tup ss => exact skip (by cases bs <;> simp [outs]) (by cases bs <;> simp [backs])
end
end Go.Proofs.Gh
