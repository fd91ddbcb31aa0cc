/- A loop's head: what is kept, what is forgotten. -/
import Derived.Test.YtmpnmcnjhpekaaaGh22
set_option linter.unusedSimpArgs false
namespace Go.Proofs.Gh
open Go.RowKit
section
variable {B : Base} {γ : Nat → Bx} {st : Nat → Prop} {ow : Nat → Option Ow} {hand : List (Value × C)} {σ σ0 : St} {w : World} {r : Res} {tmps : Array Value}

theorem trunc_len {n : Nat} (h : n ≤ σ.boxes.length) : (σ.trunc n).boxes.length = n := by simp [St.trunc]; omega
theorem nodeC_box {p : Place} {d : C} (h : σ.nodeC p = some d) : ∃ b, σ.boxes[p.r]? = some b := by
  obtain ⟨c, hc, _⟩ := nodeC_root h
  obtain ⟨b, hb, _⟩ := root_box hc
  exact ⟨b, hb⟩
theorem nodeC_real {σ' : St} (hS : Same σ0 σ') {p : Place} {b : Box} (hb : σ0.boxes[p.r]? = some b) (hf : b.free = false) : σ'.nodeC p = σ0.nodeC p := by
  unfold St.nodeC St.root
  rw [hS.real _ _ hb hf, hb]
theorem keep_ok {n : Nat} {u : Value} {c : C} {σ' : St} (hc : CellOk σ0 st γ w u c) (hf : ∀ p, (c = .al p ∨ c = .pl p) → ∀ b, σ0.boxes[p.r]? = some b → b.free = false) (hS : Same σ0 σ') (hn : n ≤ σ0.boxes.length) :
    CellOk (σ'.trunc n) st γ w u (c.keep n) := by
  have hl : (σ'.trunc n).boxes.length = n := trunc_len (by rw [hS.len]; exact hn)
  cases hc with
  | unk => exact .unk _
  | rep _ _ h => exact .rep _ _ (h.keepC (Nat.le_of_eq hl.symm) (fun _ _ => rfl))
  | al p _ d hd hv hp =>
    simp only [C.keep]
    split
    · rename_i hlt
      obtain ⟨b, hb⟩ := nodeC_box hd
      have hbf := hf p (.inl rfl) b hb
      have hd' : σ'.nodeC p = some d := (nodeC_real hS hb hbf).trans hd
      rcases nodeC_trunc (hS.real _ _ hb hbf) hbf hlt hd' with h | ⟨_, h⟩
      · exact .al p _ d h hv hp
      · exact .al p _ _ h (keep_notV hv) hp
    · exact .unk _
  | pl p before s d ad hs hd hx ha =>
    simp only [C.keep]
    split
    · rename_i hlt
      obtain ⟨b, hb⟩ := nodeC_box hd
      have hbf := hf p (.inr rfl) b hb
      have hd' : σ'.nodeC ⟨p.r, p.k, before⟩ = some d := (nodeC_real (p := ⟨p.r, p.k, before⟩) hS hb hbf).trans hd
      obtain ⟨x, hx'⟩ := hx
      have hdk : d.keep n = d := by
        cases d <;> first | rfl | simp [C.asOwn] at hx'
      rcases nodeC_trunc (p := ⟨p.r, p.k, before⟩) (hS.real _ _ hb hbf) hbf hlt hd' with h | ⟨_, h⟩
      · exact .pl p before s d ad hs h ⟨x, hx'⟩ ha
      · rw [hdk] at h; exact .pl p before s d ad hs h ⟨x, hx'⟩ ha
    · exact .unk _
  | rp ad cs us h1 h2 h3 => exact .rp ad cs us h1 h2 h3
  | wi => exact .unk _
  | pa r k g o ps us h1 h2 h3 h4 =>
    simp only [C.keep]
    split
    · rename_i hc
      obtain ⟨hr, hall⟩ := hc
      have hal : ∀ {q : Place} {u : Value}, CellOk σ0 st γ w u (.al q) → q.r < n → q.steps = [] → CellOk (σ'.trunc n) st γ w u (.al q) := fun {q u} hq hlt hst => by
        obtain ⟨d, hd, hv, hp⟩ := cell_al hq
        obtain ⟨c0, hroot, hwc⟩ := nodeC_root hd
        obtain ⟨b, hb, hck⟩ := root_box hroot
        cases hfr : b.free with
        | false =>
          have hd' : σ'.nodeC q = some d := (nodeC_real hS hb hfr).trans hd
          rcases nodeC_trunc (hS.real _ _ hb hfr) hfr hlt hd' with h | ⟨_, h⟩
          · exact .al q _ d h hv hp
          · exact .al q _ _ h (keep_notV hv) hp
        | true =>
          obtain ⟨b', hb', hf', hlen⟩ := hS.free _ _ hb hfr
          have hk : q.k < b'.cs.length := by rw [hlen]; exact hck
          refine .al q _ .unk ?_ (by simp) hp
          unfold St.nodeC
          rw [root_trunc hb' hlt, List.getElem?_eq_getElem hk, hst]
          simp [hf', walkC]
      refine .pa r k g o ps us (by rw [hl]; exact hr) h2 (fun j q hq => hal (h3 j q hq) hr rfl) (fun j q hq => ?_)
      have := List.all_eq_true.1 hall _ (List.mem_of_getElem? hq)
      simp only [paKeep, Bool.and_eq_true, decide_eq_true_eq, List.isEmpty_iff] at this
      exact hal (h4 j q hq) this.1 this.2
    · exact .unk _
theorem keep_own {n : Nat} {c : C} (h : c.asOwnB = false) : (c.keep n).asOwnB = false := by
  cases c <;> simp only [C.keep] <;> (try split) <;> first | rfl | exact h
theorem same_take {p : Place} {cs : List C} (hb : σ.boxes[p.r]? = some ⟨true, cs⟩) : Same σ ((σ.put p .unk).kill (C.beyond p)) := by
  refine ⟨length_put _ _ _, by simp [St.kill, St.put], fun r b hb' hf => ?_, fun r b hb' hf => ?_⟩
  · have hne : p.r ≠ r := fun e => by subst e; rw [hb] at hb'; cases hb'; cases hf
    simp only [St.kill, St.put]
    rw [getElem?_modify_ne _ _ hne]
    exact hb'
  · simp only [St.kill, St.put]
    by_cases e : p.r = r
    · subst e
      rw [getElem?_modify_self, hb]
      rw [hb] at hb'
      cases hb'
      exact ⟨_, rfl, rfl, by simp⟩
    · rw [getElem?_modify_ne _ _ e]; exact ⟨b, hb', hf, rfl⟩
theorem owns_no {u : Value} {d : C} (h : d.asOwnB = false) : owns [u] [d] = [] := by simp [owns, h]
theorem owns_cons (u : Value) (us : List Value) (d : C) (ds : List C) : owns (u :: us) (d :: ds) = owns [u] [d] ++ owns us ds := by
  simp only [owns]; split <;> rfl
theorem pullC_ok {n : Nat} {u : Value} {c : C} {k : C → St → Option Res} (R : Rel B γ st ow hand σ tmps w) (hS : Same σ0 σ) (hn : n ≤ σ0.boxes.length) (hc : CellOk σ0 st γ w u c) (h : pullC n σ c k = some r) :
    ∃ d σ' ow', k d σ' = some r ∧ Same σ σ' ∧ Rel B γ st ow' (hand ++ owns [u] [d]) σ' tmps w ∧ (d.asOwnB = false → ∀ σ'', Same σ' σ'' → CellOk (σ''.trunc n) st γ w u d) := by
  have hstay : ∀ {d : C}, d.asOwnB = false → k d σ = some r → (∀ σ'', Same σ σ'' → CellOk (σ''.trunc n) st γ w u d) → ∃ d σ' ow', k d σ' = some r ∧ Same σ σ' ∧ Rel B γ st ow' (hand ++ owns [u] [d]) σ' tmps w ∧ (d.asOwnB = false → ∀ σ'', Same σ' σ'' → CellOk (σ''.trunc n) st γ w u d) := fun {d} ho hk hg =>
    ⟨d, σ, ow, hk, Same.refl σ, by rw [owns_no ho]; simpa using R, fun _ => hg⟩
  have hunk : k .unk σ = some r → ∃ d σ' ow', k d σ' = some r ∧ Same σ σ' ∧ Rel B γ st ow' (hand ++ owns [u] [d]) σ' tmps w ∧ (d.asOwnB = false → ∀ σ'', Same σ' σ'' → CellOk (σ''.trunc n) st γ w u d) := fun hk =>
    hstay rfl hk fun _ _ => .unk _
  have hnf : ∀ {i : Nat}, (∀ cs, σ.boxes[i]? ≠ some ⟨true, cs⟩) → ∀ b, σ0.boxes[i]? = some b → b.free = false := fun {i} hno b hb => by
    cases hf : b.free with
    | false => rfl
    | true =>
      obtain ⟨b', hb', hf', _⟩ := hS.free i b hb hf
      obtain ⟨f, cs⟩ := b'
      simp only at hf'
      subst hf'
      exact absurd hb' (hno cs)
  unfold pullC at h
  split at h
  · rename_i p
    split at h
    · rename_i cs hb
      split at h
      · rename_i hsteps
        rw [nodeK_eq, Option.bind_eq_some_iff] at h
        obtain ⟨d, hd, h⟩ := h
        split at h
        · rename_i nl sz es
          obtain ⟨v, ow', hv, R'⟩ := R.take hd
          have hvu : v = u := by
            cases hc with
            | rep _ _ h => cases h
            | al _ _ d' _ _ hp => rw [hp] at hv; exact (Option.some.inj hv).symm
          subst hvu
          exact ⟨_, _, ow', h, same_take hb, by simpa [owns, C.asOwnB] using R', fun h => by simp [C.asOwnB] at h⟩
        · rename_i kvs
          obtain ⟨v, ow', hv, R'⟩ := R.take hd
          have hvu : v = u := by
            cases hc with
            | rep _ _ h => cases h
            | al _ _ d' _ _ hp => rw [hp] at hv; exact (Option.some.inj hv).symm
          subst hvu
          exact ⟨_, _, ow', h, same_take hb, by simpa [owns, C.asOwnB] using R', fun h => by simp [C.asOwnB] at h⟩
        · exact hunk h
      · exact hunk h
    · rename_i hno
      refine hstay (keep_own rfl) h fun σ'' hs => keep_ok hc (fun q hq b hb => ?_) (hS.trans hs) hn
      rcases hq with hq | hq
      · cases hq; exact hnf (fun cs h => hno cs h) b hb
      · cases hq
  · rename_i p
    split at h
    · exact hunk h
    · rename_i hno
      refine hstay (keep_own rfl) h fun σ'' hs => keep_ok hc (fun q hq b hb => ?_) (hS.trans hs) hn
      rcases hq with hq | hq
      · cases hq
      · cases hq; exact hnf (fun cs h => hno cs h) b hb
  · rename_i nl sz
    cases hc with
    | rep _ _ hr =>
      have hr' : Rep st γ w σ.boxes.length u (.sl true nl sz []) (fun _ => False) := by rw [hS.len]; exact hr
      obtain ⟨ow', R'⟩ := R.take0 hr'
      exact ⟨_, σ, ow', h, Same.refl σ, by simpa [owns, C.asOwnB] using R', fun h => by simp [C.asOwnB] at h⟩
  · cases h
  · cases h
  · rename_i h1 h2 h3 h4 h5
    have ho : c.asOwnB = false := by
      cases c with
      | mp kvs => exact absurd rfl (h5 kvs)
      | sl o nl sz es => cases o with
        | true => exact absurd rfl (h4 nl sz es)
        | false => rfl
      | _ => rfl
    refine hstay (keep_own ho) h fun σ'' hs => keep_ok hc (fun q hq b hb => ?_) (hS.trans hs) hn
    rcases hq with hq | hq
    · exact absurd hq (h1 q)
    · exact absurd hq (h2 q)
theorem pullsC_ok {n : Nat} : ∀ (cs : List C) (us : List Value) {ow : Nat → Option Ow} {σ : St} {hand : List (Value × C)} {k : List C → St → Option Res}, Rel B γ st ow hand σ tmps w → Same σ0 σ → n ≤ σ0.boxes.length → us.length = cs.length →
    (∀ (i : Nat) (u : Value) (c : C), us[i]? = some u → cs[i]? = some c → CellOk σ0 st γ w u c) → pullsC n σ cs k = some r →
    ∃ ds σ' ow', k ds σ' = some r ∧ Same σ σ' ∧ Rel B γ st ow' (hand ++ owns us ds) σ' tmps w ∧ us.length = ds.length ∧ ∀ (i : Nat) (u : Value) (d : C), us[i]? = some u → ds[i]? = some d → d.asOwnB = false → ∀ σ'', Same σ' σ'' → CellOk (σ''.trunc n) st γ w u d
  | [], us, ow, σ, hand, k, R, hS, hn, hl, hc, h => by
    have : us = [] := List.eq_nil_of_length_eq_zero hl
    subst this
    exact ⟨[], σ, ow, h, Same.refl σ, by simpa [owns] using R, rfl, by simp⟩
  | c :: cs, us, ow, σ, hand, k, R, hS, hn, hl, hc, h => by
    cases us with
    | nil => simp at hl
    | cons u us =>
      unfold pullsC at h
      obtain ⟨d, σ1, ow1, h1, hS1, R1, hg1⟩ := pullC_ok R hS hn (hc 0 u c rfl rfl) h
      obtain ⟨ds, σ2, ow2, h2, hS2, R2, hl2, hg2⟩ := pullsC_ok cs us R1 (hS.trans hS1) hn (by simpa using hl) (fun i u c hu hcs => hc (i + 1) u c (by simpa using hu) (by simpa using hcs)) h1
      refine ⟨d :: ds, σ2, ow2, h2, hS1.trans hS2, by rw [owns_cons, ← List.append_assoc]; exact R2, by simpa using hl2, fun i u' d' hu hd ho σ'' hs => ?_⟩
      cases i with
      | zero => simp only [List.getElem?_cons_zero, Option.some.injEq] at hu hd; subst hu hd; exact hg1 ho σ'' (hS2.trans hs)
      | succ i => exact hg2 i u' d' (by simpa using hu) (by simpa using hd) ho σ'' hs
/-- What is kept of some slots, and what of it is in the hand. -/
inductive Kept (tmps : Array Value) (good : Value → C → Prop) : List (Nat × S) → List (Value × C) → Prop
  | nil : Kept tmps good [] []
  | cons (t : Nat) (s : S) (u : Value) (us : List Value) (cs : List C) (l : List (Nat × S)) (hs : List (Value × C)) : (∀ v, tmps[t]? = some v → v = u) → ValIs u us s cs →
      (∀ (i : Nat) (u : Value) (c : C), us[i]? = some u → cs[i]? = some c → c.asOwnB = false → good u c) → Kept tmps good l hs → Kept tmps good ((t, s) :: l) (owns us cs ++ hs)
theorem Kept.mono {good good' : Value → C → Prop} {l : List (Nat × S)} {hs : List (Value × C)} (h : Kept tmps good l hs) (hg : ∀ u c, good u c → good' u c) : Kept tmps good' l hs := by
  induction h with
  | nil => exact .nil
  | cons t s u us cs l hs h1 h2 h3 _ ih => exact .cons t s u us cs l hs h1 h2 (fun i u c hu hc ho => hg _ _ (h3 i u c hu hc ho)) ih
theorem pullS_ok {n : Nat} {u : Value} {s : S} {k : S → St → Option Res} (R : Rel B γ st ow hand σ tmps w) (hn : n ≤ σ.boxes.length) (hs : SlotOk σ st γ w u s) (h : pullS n σ s k = some r) :
    ∃ s' us ds σ' ow', k s' σ' = some r ∧ Same σ σ' ∧ Rel B γ st ow' (hand ++ owns us ds) σ' tmps w ∧ ValIs u us s' ds ∧ ∀ (i : Nat) (u : Value) (d : C), us[i]? = some u → ds[i]? = some d → d.asOwnB = false → ∀ σ'', Same σ' σ'' → CellOk (σ''.trunc n) st γ w u d := by
  unfold pullS at h
  cases hs with
  | one _ c hc =>
    simp only at h
    obtain ⟨d, σ1, ow1, h1, hS1, R1, hg1⟩ := pullC_ok R (Same.refl σ) hn hc h
    refine ⟨_, [u], [d], σ1, ow1, h1, hS1, R1, .one _ _, fun i u' d' hu hd => ?_⟩
    cases i with
    | zero => simp only [List.getElem?_cons_zero, Option.some.injEq] at hu hd; subst hu hd; exact hg1
    | succ i => simp at hu
  | agg us cs hl hc =>
    simp only at h
    obtain ⟨ds, σ1, ow1, h1, hS1, R1, hl1, hg1⟩ := pullsC_ok cs us R (Same.refl σ) hn hl hc h
    exact ⟨_, us, ds, σ1, ow1, h1, hS1, R1, .agg us ds hl1, hg1⟩
  | tup us ss hl hc =>
    simp only at h
    refine ⟨_, [.tuple us.toArray], [.unk], σ, ow, h, Same.refl σ, by simpa [owns, C.asOwnB] using R, .one _ _, fun i u' d' hu hd _ _ _ => ?_⟩
    cases i with
    | zero => simp only [List.getElem?_cons_zero, Option.some.injEq] at hd; subst hd; exact .unk _
    | succ i => simp at hd
theorem gatherK_ok {n : Nat} : ∀ (ts : List Nat) {ow : Nat → Option Ow} {σ : St} {hand : List (Value × C)} {k : List (Nat × S) → St → Option Res}, Rel B γ st ow hand σ tmps w → n ≤ σ.boxes.length → gatherK n ts σ k = some r →
    ∃ l hs σ' ow', k l σ' = some r ∧ Same σ σ' ∧ Rel B γ st ow' (hand ++ hs) σ' tmps w ∧ Kept tmps (fun u c => ∀ σ'', Same σ' σ'' → CellOk (σ''.trunc n) st γ w u c) l hs
  | [], ow, σ, hand, k, R, hn, h => ⟨[], [], σ, ow, h, Same.refl σ, by simpa using R, .nil⟩
  | t :: ts, ow, σ, hand, k, R, hn, h => by
    unfold gatherK at h
    have hslot : ∃ u, SlotOk σ st γ w u (σ.slot t) ∧ ∀ v, tmps[t]? = some v → v = u := by
      unfold St.slot
      rw [List.getD_eq_getElem?_getD]
      cases hs : σ.slots[t]? with
      | none =>
        refine ⟨undef, .one _ _ (.unk _), fun v hv => ?_⟩
        have h1 : t < tmps.size := (Array.getElem?_eq_some_iff.1 hv).1
        rw [R.size] at h1
        rw [List.getElem?_eq_getElem h1] at hs
        cases hs
      | some s =>
        have hlt : t < tmps.size := by rw [R.size]; exact (List.getElem?_eq_some_iff.1 hs).1
        exact ⟨tmps[t], R.slots t s _ hs (Array.getElem?_eq_getElem hlt), fun v hv => by rw [Array.getElem?_eq_getElem hlt] at hv; exact (Option.some.inj hv).symm⟩
    obtain ⟨u, hu, hv⟩ := hslot
    obtain ⟨s', us, ds, σ1, ow1, h1, hS1, R1, hvi, hg1⟩ := pullS_ok R hn hu h
    obtain ⟨l, hs, σ2, ow2, h2, hS2, R2, hk⟩ := gatherK_ok ts R1 (by rw [hS1.len]; exact hn) h1
    exact ⟨_, _, σ2, ow2, h2, hS1.trans hS2, by rw [← List.append_assoc]; exact R2, .cons t s' u us ds l hs hv hvi (fun i u c hu hc ho σ'' hs => hg1 i u c hu hc ho σ'' (hS2.trans hs)) hk⟩
theorem owns_own : ∀ (us : List Value) (cs : List C) (x : Value × C), x ∈ owns us cs → x.2.asOwnB = true
  | [], _, x, h => by simp [owns] at h
  | _ :: _, [], x, h => by simp [owns] at h
  | u :: us, c :: cs, x, h => by
    rw [owns_cons] at h
    rcases List.mem_append.1 h with h | h
    · simp only [owns] at h
      split at h
      · simp at h; subst h; assumption
      · simp at h
    · exact owns_own us cs x h
theorem Kept.own {good : Value → C → Prop} {l : List (Nat × S)} {hs : List (Value × C)} (h : Kept tmps good l hs) : ∀ x ∈ hs, x.2.asOwnB = true := by
  induction h with
  | nil => simp
  | cons t s u us cs l hs _ _ _ _ ih =>
    intro x hx
    rcases List.mem_append.1 hx with hx | hx
    · exact owns_own _ _ _ hx
    · exact ih x hx
/-- The boxes behind the first n are forgotten. -/
theorem Rel.trunc (R : Rel B γ st ow hand σ tmps w) {n : Nat} (hn : n ≤ σ.boxes.length) (hp : ∀ i x, B.pin i = some x → i < n) (ho : ∀ x ∈ hand, x.2.asOwnB = true) : ∃ ow', Rel B γ st ow' hand (σ.trunc n) tmps w := by
  have hl := trunc_len (σ := σ) hn
  have how : ∃ ow' : Nat → Option Ow, (∀ b i, ow b = some (.hand i) → ow' b = some (.hand i)) ∧ (∀ b r k, r < n → ow b = some (.cell r k) → ow' b = some (.cell r k)) ∧ (∀ b r, r < n → ow b = some (.box r) → ow' b = some (.box r)) ∧
      (∀ b, ow b = none → ow' b = none) ∧ ∀ b y, ow' b = some y → ow b = some y := by
    refine ⟨fun b => match ow b with
      | some (.box r) => if r < n then some (.box r) else none
      | some (.cell r k) => if r < n then some (.cell r k) else none
      | x => x, fun b i h => by simp [h], fun b r k hr h => by simp [h, hr], fun b r hr h => by simp [h, hr], fun b h => by simp [h], fun b y h => ?_⟩
    cases hb : ow b with
    | none => simp [hb] at h
    | some x =>
      simp only [hb] at h
      cases x with
      | box r =>
        simp only at h
        split at h
        · exact h
        · cases h
      | cell r k =>
        simp only at h
        split at h
        · exact h
        · cases h
      | hand i => exact h
  obtain ⟨ow', how1, how2, how3, how4, how5⟩ := how
  have hbox : ∀ {i : Nat} {b' : Box}, (σ.trunc n).boxes[i]? = some b' → ∃ b, σ.boxes[i]? = some b ∧ i < n ∧ b' = ⟨b.free, b.cs.map fun c => if b.free then .unk else c.keep n⟩ := fun {i b'} h => by
    simp only [St.trunc, List.getElem?_map, List.getElem?_take] at h
    split at h
    · rename_i hlt
      cases hb : σ.boxes[i]? with
      | none => rw [hb] at h; simp at h
      | some b =>
        rw [hb] at h
        simp only [Option.map_some, Option.some.injEq] at h
        exact ⟨b, rfl, hlt, h.symm⟩
    · simp at h
  refine ⟨ow', ?_⟩
  constructor
  · exact R.tab
  · simpa [St.trunc] using R.size
  · intro t s u hs hu
    simp only [St.trunc, List.getElem?_replicate] at hs
    split at hs
    · cases hs; exact .one _ _ (.unk _)
    · cases hs
  · intro i k c hc
    have hlt : i < n := by have := root_lt hc; omega
    obtain ⟨b', hb', hk⟩ := root_box hc
    obtain ⟨b, hb, _, rfl⟩ := hbox hb'
    rw [root_trunc hb hlt] at hc
    cases hck : b.cs[k]? with
    | none => rw [hck] at hc; simp at hc
    | some c0 =>
      rw [hck] at hc
      simp only [Option.map_some, Option.some.injEq] at hc
      obtain ⟨u, hu, hr⟩ := R.cells i k c0 (by unfold St.root; rw [hb]; exact hck)
      refine ⟨u, hu, ?_⟩
      subst hc
      split
      · exact .unk _ _ _ hr.one
      · exact (hr.keepC (Nat.le_of_eq hl.symm) (fun _ _ => rfl)).mono fun b hb => how2 b i k hlt hb
  · intro i b' g o hb' hg
    obtain ⟨b, hb, hlt, rfl⟩ := hbox hb'
    obtain ⟨h1, h2, h3⟩ := R.mem i b g o hb hg
    exact ⟨h1, how3 g i hlt h2, fun k hk => h3 k (by simpa using hk)⟩
  · intro i b' hb' hf
    obtain ⟨b, hb, hlt, rfl⟩ := hbox hb'
    exact R.free i b hb hf
  · intro i x hx
    have hr := R.hands i x hx
    have hkc := (hr.keepC (Nat.le_of_eq hl.symm) (fun _ _ => rfl)).mono fun b hb => how1 b i hb
    have hkk : x.2.keep n = x.2 := by rcases own_sl (ho x (List.mem_of_getElem? hx)) with ⟨nl, sz, es, he⟩ | ⟨kvs, he⟩ <;> rw [he] <;> rfl
    rw [hkk] at hkc
    exact hkc
  · intro b y hy; exact R.lt b y (how5 b y hy)
  · intro b hb; exact ⟨(R.stlt b hb).1, how4 b (R.stlt b hb).2⟩
  · exact R.chg
  · intro b y hy hb hne; exact R.mine b y (how5 b y hy) hb hne
  · intro i x hx; exact ⟨by rw [hl]; exact hp i x hx, (R.pin i x hx).2⟩
theorem placeK_ok : ∀ (l : List (Nat × S)) {γ : Nat → Bx} {ow : Nat → Option Ow} {σ : St} {hs : List (Value × C)} {k : St → Option Res}, Rel B γ st ow hs σ tmps w → Kept tmps (CellOk σ st γ w) l hs → placeK l σ k = some r →
    ∃ σ' γ' ow', k σ' = some r ∧ Rel B γ' st ow' [] σ' tmps w
  | [], γ, ow, σ, hs, k, R, hk, h => by
    cases hk
    exact ⟨σ, γ, ow, h, R⟩
  | (t, s) :: l, γ, ow, σ, hs, k, R, hk, h => by
    cases hk with
    | cons _ _ u us cs _ hs h1 h2 h3 h4 =>
      unfold placeK at h
      obtain ⟨ow1, R1⟩ := Rel.rot (hand := []) (A := owns us cs) (D := hs) (by simpa using R)
      obtain ⟨s', σ2, γ2, ow2, e2, R2, hs2, hall, hsl⟩ := Rel.homeH (hand := hs) h2 (by simpa using R1) h3 h
      have R3 := R2.assign t hs2
      have he : tmps.setIfInBounds t u = tmps := by
        apply Array.ext_getElem?
        intro i
        rw [Array.getElem?_setIfInBounds]
        by_cases e : t = i
        · subst e
          cases hv : tmps[t]? with
          | none => simpa using hv
          | some v =>
            have hlt : t < tmps.size := (Array.getElem?_eq_some_iff.1 hv).1
            rw [h1 v hv]; simp [hlt]
        · simp [e]
      rw [he] at R3
      exact placeK_ok l R3 (h4.mono fun u c hc => CellOk.boxes (σ := σ2) rfl (cellOf_slot hall hc)) e2
theorem forget_ok : ForgetOk := by
  intro B γ st ow σ w tmps r keep n k R hp h
  unfold forgetK at h
  split at h
  · rename_i hn
    obtain ⟨l, hs, σ1, ow1, h1, hS, R1, hk⟩ := gatherK_ok keep R hn h
    obtain ⟨ow2, R2⟩ := R1.trunc (n := n) (by rw [hS.len]; exact hn) hp (by simpa using hk.own)
    exact placeK_ok l (by simpa using R2) (hk.mono fun u c hc => hc σ1 (Same.refl σ1)) h1
  · cases h
end
end Go.Proofs.Gh
