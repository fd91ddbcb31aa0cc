/- A call's beginning, whole. -/
import Derived.Test.YtmpnmcnjhpekaaaGh30
set_option linter.unusedSimpArgs false
namespace Go.Proofs.Gh
open Go.RowKit
section
variable {P : Program} {E : Env} {B : Base} {γ : Nat → Bx} {st : Nat → Prop} {ow : Nat → Option Ow} {hand : List (Value × C)} {σ σ0 : St} {w : World} {r : Res} {tmps : Array Value}

def blkOf (γ : Nat → Bx) (i : Nat) : Nat := match γ i with
  | .mem g _ => g
  | .val _ => 0
/-- What is shown and what was lent. -/
inductive Shown : List Mode → List S → List S → Prop
  | nil : Shown [] [] []
  | ro {ms ys zs} (y z) : Shown ms ys zs → Shown (.ro :: ms) (y :: ys) (z :: zs)
  | other {m ms ys zs} (y) : m ≠ .ro → Shown ms ys zs → Shown (m :: ms) (y :: ys) (y :: zs)
theorem shows_ok {keeps : Bool} {lent : List Nat} {Y : Nat → Nat → Prop} {bxs : List Nat} {ms : List Mode} {xs : List S} {us : List Value} {ys : List S} {hs : List (Value × C)} {gs : List Nat} (hL : LentAll σ0 st γ w bxs ms xs us ys hs gs) (R : Rel B γ st ow hand σ tmps w) (hlent : ∀ i ∈ gs, i ∈ lent)
    (hgone : ∀ i ∈ gs, ∃ b : Box, σ0.boxes[i]? = some b ∧ σ.boxes[i]? = some ⟨false, b.cs.map fun _ => .unk⟩)
    (hY : ∀ i ∈ gs, ∀ (g o : Nat) (b : Box), γ i = .mem g o → σ.boxes[i]? = some b → ∀ k, k < b.cs.length → Y g (o + k)) : ∀ {k : List S → Option Res}, showsK keeps lent σ ms ys k = some r →
    ∃ zs, k zs = some r ∧ Args (stays keeps lent st ow) w Y ms zs us hs (gs.map (blkOf γ)) ∧ zs.length = ms.length ∧ Shown ms ys zs := by
  induction hL with
  | nil => intro k h; exact ⟨[], h, .nil, rfl, .nil⟩
  | @cons m x u y hs1 gs1 ms xs us ys hs' gs' ha _ ih =>
    intro k h
    have hrest : ∀ {z : S}, (m = .ro ∨ z = y) → Arg (stays keeps lent st ow) w Y m z u hs1 (gs1.map (blkOf γ)) → (showsK keeps lent σ ms ys fun ds => k (z :: ds)) = some r →
        ∃ zs, k zs = some r ∧ Args (stays keeps lent st ow) w Y (m :: ms) zs (u :: us) (hs1 ++ hs') ((gs1 ++ gs').map (blkOf γ)) ∧ zs.length = (m :: ms).length ∧ Shown (m :: ms) (y :: ys) zs := fun {z} hzy hz h => by
      obtain ⟨zs, h1, h2, h3, h4⟩ := ih (fun i hi => hlent i (List.mem_append_right _ hi)) (fun i hi => hgone i (List.mem_append_right _ hi)) (fun i hi => hY i (List.mem_append_right _ hi)) h
      refine ⟨z :: zs, h1, by rw [List.map_append]; exact .cons hz h2, by simp [h3], ?_⟩
      rcases hzy with e | e
      · subst e; exact .ro _ _ h4
      · subst e
        by_cases hm : m = .ro
        · subst hm; exact .ro _ _ h4
        · exact .other _ hm h4
    have hother : m ≠ .ro → showsK keeps lent σ (m :: ms) (y :: ys) k = showsK keeps lent σ ms ys fun ds => k (y :: ds) := fun hm => by
      cases m with
      | ro => exact absurd rfl hm
      | io => rfl
      | tk => rfl
    cases ha with
    | ro _ _ hs =>
      simp only [showsK] at h
      obtain ⟨z, h1, hz⟩ := show_ok (γ' := fun _ => .val []) R hs h
      exact hrest (.inl rfl) (.plain .ro z u (fun e => absurd rfl e) hz) h1
    | own _ c _ d hm hc ho =>
      rw [hother hm] at h
      obtain ⟨nl, sz, es, rfl⟩ := own_slB ho
      exact hrest (.inr rfl) (.own m u nl sz es hm) h
    | val _ _ d hm hd hr =>
      rw [hother hm] at h
      refine hrest (.inr rfl) (.plain m _ u (fun _ => ⟨d, rfl, ?_⟩) (.one _ _ (.rep _ _ ?_))) h
      · rcases hd with ⟨x, rfl⟩ | ⟨b, rfl⟩ <;> exact ⟨rfl, by simp⟩
      · exact hr.frame (fun b hb => .inl hb) (Nat.le_refl _) (fun r hr => absurd hr (Nat.not_lt_zero r)) (fun _ _ => rfl)
    | agg _ cs us' ds hm h1 h2 h3 =>
      rw [hother hm] at h
      exact hrest (.inr rfl) (.agg m us' ds hm h2) h
    | bx i g o us' cs hb hg hl hcell =>
      rw [hother (by simp)] at h
      obtain ⟨b, hb1, rfl⟩ := hb
      obtain ⟨b', hb2, hb3⟩ := hgone i (by simp)
      rw [hb1] at hb2; cases hb2
      obtain ⟨_, how, hfz⟩ := R.mem i _ g o hb3 hg
      have hmap : [i].map (blkOf γ) = [g] := by simp [blkOf, hg]
      refine hrest (z := .one (.bx b.cs)) (.inr rfl) ?_ h
      rw [hmap]
      refine .bx g o us' b.cs hl (R.lt g _ how) (fun hst => ?_) hcell (fun k hk => ⟨(hfz k (by simpa using hk)).1, hY i (by simp) g o _ hg hb3 k (by simpa using hk)⟩)
      rcases hst with hst | ⟨_, ⟨r, k, hst⟩ | ⟨r, hst, hr⟩⟩
      · rw [(R.stlt g hst).2] at how; cases how
      · rw [hst] at how; cases how
      · rw [hst] at how; cases how; exact hr (hlent _ (by simp))
/-- What a call may write: what is in the hand, and the boxes that are lent. -/
def writes (ow : Nat → Option Ow) (γ : Nat → Bx) (σ : St) (gs : List Nat) : Nat → Nat → Prop := fun b o =>
  (∃ i, ow b = some (.hand i)) ∨ ∃ r ∈ gs, ∃ bx o0, σ.boxes[r]? = some bx ∧ γ r = .mem b o0 ∧ o0 ≤ o ∧ o < o0 + bx.cs.length
theorem nodup_map {f : Nat → Nat} : ∀ {l : List Nat}, l.Nodup → (∀ i ∈ l, ∀ j ∈ l, f i = f j → i = j) → (l.map f).Nodup
  | [], _, _ => by simp
  | a :: l, h, hf => by
    rw [List.nodup_cons] at h
    rw [List.map_cons, List.nodup_cons]
    refine ⟨fun hm => ?_, nodup_map h.2 fun i hi j hj e => hf i (List.mem_cons_of_mem _ hi) j (List.mem_cons_of_mem _ hj) e⟩
    obtain ⟨b, hb, e⟩ := List.mem_map.1 hm
    have := hf a (by simp) b (List.mem_cons_of_mem _ hb) e.symm
    subst this
    exact h.1 hb

/-- Where the hand is empty nothing is owned by it. -/
theorem Rel.clean (R : Rel B γ st ow [] σ tmps w) : ∃ ow', Rel B γ st ow' [] σ tmps w ∧ ∀ b i, ow' b ≠ some (.hand i) := by
  refine ⟨fun b => match ow b with | some (.hand _) => none | x => x, ?_, fun b i h => ?_⟩
  · have hback : ∀ b y, (match ow b with | some (.hand _) => none | x => x) = some y → ow b = some y := fun b y h => by
      split at h
      · cases h
      · exact h
    have hfw : ∀ b y, ow b = some y → (∀ i, y ≠ .hand i) → (match ow b with | some (.hand _) => none | x => x) = some y := fun b y h hy => by
      split
      · rename_i i e; rw [h] at e; cases e; exact absurd rfl (hy i)
      · exact h
    constructor
    · exact R.tab
    · exact R.size
    · exact R.slots
    · intro r k c hc
      obtain ⟨u, hu, hr⟩ := R.cells r k c hc
      exact ⟨u, hu, hr.mono fun b hb => hfw b _ hb (by simp)⟩
    · intro r b g o hb hg
      obtain ⟨h1, h2, h3⟩ := R.mem r b g o hb hg
      exact ⟨h1, hfw g _ h2 (by simp), h3⟩
    · exact R.free
    · intro i x hx; simp at hx
    · intro b x hb; exact R.lt b x (hback b x hb)
    · intro b hb
      obtain ⟨h1, h2⟩ := R.stlt b hb
      exact ⟨h1, by simp [h2]⟩
    · exact R.chg
    · intro b x hb; exact R.mine b x (hback b x hb)
    · exact R.pin
  · simp only at h
    split at h
    · cases h
    · rename_i hne; exact hne i h
theorem boxesOf_ro : ∀ (ms : List Mode) (xs : List S), ms.all Mode.isRo = true → boxesOf ms xs = []
  | [], xs, _ => by cases xs <;> rfl
  | m :: ms, [], _ => by cases m <;> rfl
  | m :: ms, x :: xs, h => by
    simp only [List.all_cons, Bool.and_eq_true] at h
    cases m with
    | ro => exact boxesOf_ro ms xs h.2
    | _ => simp [Mode.isRo] at h
theorem lends_ro {bxs : List Nat} : ∀ (ms : List Mode) (xs : List S) (us : List Value) {σ : St} {k : List S → St → Option Res}, ms.all Mode.isRo = true → lendsK bxs σ ms xs k = some r → us.length = xs.length →
    (∀ (i : Nat) (u : Value) (x : S), us[i]? = some u → xs[i]? = some x → SlotOk σ0 st γ w u x) → k xs σ = some r ∧ LentAll σ0 st γ w bxs ms xs us xs [] []
  | [], [], us, σ, k, _, h, hl, hs => by
    have : us = [] := List.eq_nil_of_length_eq_zero hl
    subst this
    exact ⟨h, .nil⟩
  | m :: ms, x :: xs, us, σ, k, hm, h, hl, hs => by
    simp only [List.all_cons, Bool.and_eq_true] at hm
    cases us with
    | nil => simp at hl
    | cons u us =>
      cases m with
      | ro =>
        simp only [lendsK, lendK] at h
        obtain ⟨h1, h2⟩ := lends_ro (bxs := bxs) ms xs us hm.2 h (by simpa using hl) (fun i u x hu hx => hs (i + 1) u x (by simpa using hu) (by simpa using hx))
        exact ⟨h1, .cons (hs' := []) (gs' := []) (.ro x u (hs 0 u x rfl rfl)) h2⟩
      | _ => simp [Mode.isRo] at hm
  | [], _ :: _, us, σ, k, _, h, _, _ => by simp [lendsK] at h
  | _ :: _, [], us, σ, k, _, h, _, _ => by simp [lendsK] at h
theorem callStart {keeps : Bool} {ms : List Mode} {xs : List S} {us : List Value} {k : List S → St → Option Res} (R : Rel B γ st ow [] σ tmps w) (hl : us.length = xs.length)
    (hs : ∀ (i : Nat) (u : Value) (x : S), us[i]? = some u → xs[i]? = some x → SlotOk σ st γ w u x) (h : exportsK keeps σ ms xs k = some r) :
    ∃ zs ys σ1 ow1 H γ2 ow2, k zs σ1 = some r ∧ Rel B γ st ow1 H σ1 tmps w ∧ LentAll σ st γ w (boxesOf ms xs) ms xs us ys H (boxesOf ms xs) ∧ BoxesTo (boxesOf ms xs) (boxesOf ms xs) σ σ1 ∧ ms.length = zs.length ∧ Shown ms ys zs ∧
      Args (stays keeps (boxesOf ms xs) st ow1) w (writes ow1 γ σ1 (boxesOf ms xs)) ms zs us H ((boxesOf ms xs).map (blkOf γ)) ∧
      Rel ⟨w, writes ow1 γ σ1 (boxesOf ms xs), stays keeps (boxesOf ms xs) st ow1, fun i => (bxsOf ms zs us)[i]?⟩ γ2 (stays keeps (boxesOf ms xs) st ow1) ow2 [] ⟨(enter ms zs []).1, (enter ms zs []).2⟩ us.toArray w ∧ (enter ms zs []).2.length = (bxsOf ms zs us).length ∧ (ms.all Mode.isRo = true → ∀ b o, ¬ writes ow1 γ σ1 (boxesOf ms xs) b o) := by
  unfold exportsK at h
  split at h
  · rename_i hnd
    have hbeg : ∃ ys σ1 ow1 H, showsK keeps (boxesOf ms xs) σ1 ms ys (fun zs => k zs σ1) = some r ∧ Rel B γ st ow1 ([] ++ H) σ1 tmps w ∧ LentAll σ st γ w (boxesOf ms xs) ms xs us ys H (boxesOf ms xs) ∧ (∀ z ∈ H, z.2.Nests) ∧ BoxesTo (boxesOf ms xs) (boxesOf ms xs) σ σ1 ∧
        (ms.all Mode.isRo = true → ∀ b o, ¬ writes ow1 γ σ1 (boxesOf ms xs) b o) := by
      by_cases hro : ms.all Mode.isRo = true
      · obtain ⟨ow0, R0, h0⟩ := R.clean
        obtain ⟨h1, h2⟩ := lends_ro (σ0 := σ) (bxs := boxesOf ms xs) ms xs us hro h hl hs
        have hb := boxesOf_ro ms xs hro
        rw [hb] at h1 h2 ⊢
        refine ⟨xs, σ, ow0, [], h1, by simpa using R0, h2, by simp, ⟨rfl, fun _ _ _ => rfl, fun _ h => by cases h⟩, fun _ b o hw => ?_⟩
        rcases hw with ⟨i, hi⟩ | ⟨r, hr, _⟩
        · exact h0 b i hi
        · cases hr
      · obtain ⟨ys, σ1, ow1, H, h1, R1, hL, hN, hB⟩ := lendsK_ok (σ0 := σ) ms xs us R rfl hl hs hnd (fun _ h => h) (fun _ _ => rfl) h
        exact ⟨ys, σ1, ow1, H, h1, R1, hL, hN, hB, fun h => absurd h hro⟩
    obtain ⟨ys, σ1, ow1, H, h1, R1, hL, hN, hB, hWr⟩ := hbeg
    simp only [List.nil_append] at R1
    obtain ⟨zs, h2, hA, hzl, hsh⟩ := shows_ok (lent := boxesOf ms xs) (Y := writes ow1 γ σ1 (boxesOf ms xs)) hL R1 (fun _ h => h) hB.gone (fun i hi g o b hg hb k hk => .inr ⟨i, hi, b, o, hb, hg, by omega, by omega⟩) h1
    obtain ⟨ow0, R0, how0⟩ := R1.callee (Y := writes ow1 γ σ1 (boxesOf ms xs)) (st' := stays keeps (boxesOf ms xs) st ow1) (γ' := fun _ => .val []) (fun b hb => .inl hb)
      (fun b hb => by
        rcases hb with hb | ⟨_, ⟨r, k, hb⟩ | ⟨r, hb, _⟩⟩
        · exact ⟨(R1.stlt b hb).1, fun i => by rw [(R1.stlt b hb).2]; simp⟩
        · exact ⟨R1.lt b _ hb, fun i => by rw [hb]; simp⟩
        · exact ⟨R1.lt b _ hb, fun i => by rw [hb]; simp⟩) (fun b i o hb => .inl ⟨i, hb⟩) hN (fun b hb o hw => by
        have hn := (R1.stlt b hb).2
        rcases hw with ⟨i, hi⟩ | ⟨r, _, bx, o0, hbx, hg, _⟩
        · rw [hn] at hi; cases hi
        · rw [(R1.mem r bx b o0 hbx hg).2.1] at hn; cases hn)
    have hbox : ∀ i ∈ boxesOf ms xs, ∃ g o, γ i = .mem g o ∧ ow1 g = some (.box i) := by
      have key : ∀ {bxs : List Nat} {ms xs us ys H gs}, LentAll σ st γ w bxs ms xs us ys H gs → ∀ i ∈ gs, ∃ g o, γ i = .mem g o := fun hL => by
        induction hL with
        | nil => simp
        | cons ha _ ih =>
          intro i hi
          rcases List.mem_append.1 hi with hi | hi
          · cases ha with
            | bx j g o us' cs hb hg => have : i = j := by simpa using hi
                                       subst this; exact ⟨g, o, hg⟩
            | _ => simp at hi
          · exact ih i hi
      intro i hi
      obtain ⟨g, o, hg⟩ := key hL i hi
      obtain ⟨b, _, hb⟩ := hB.gone i hi
      exact ⟨g, o, hg, (R1.mem i _ g o hb hg).2.1⟩
    have hgnd : ((boxesOf ms xs).map (blkOf γ)).Nodup := by
      refine nodup_map hnd fun i hi j hj e => ?_
      obtain ⟨g, o, hg, ho⟩ := hbox i hi
      obtain ⟨g', o', hg', ho'⟩ := hbox j hj
      simp only [blkOf, hg, hg'] at e
      subst e
      rw [ho] at ho'; cases ho'; rfl
    obtain ⟨γ2, ow2, R2, _, h4, h5⟩ := enter_ok hA R0 hgnd (fun g hg => by
      obtain ⟨i, hi, rfl⟩ := List.mem_map.1 hg
      obtain ⟨g, o, hg, ho⟩ := hbox i hi
      refine how0 _ fun j => ?_
      simp only [blkOf, hg]
      rw [ho]; simp) (fun i => rfl)
    have R2' := R2.repin (pin := fun i => (bxsOf ms zs us)[i]?) (fun i x hx => ⟨by
      simp only [List.nil_append]
      rw [h5]; simp only [List.length_nil, Nat.zero_add]
      exact (List.getElem?_eq_some_iff.1 hx).1, by have := h4 i x hx; simpa using this⟩)
    exact ⟨zs, ys, σ1, ow1, H, γ2, ow2, h2, R1, hL, hB, hzl.symm, hsh, hA, by simpa using R2', by simpa using h5, hWr⟩
  · cases h
end
end Go.Proofs.Gh
