/- A call's beginning: the callee's state. -/
import Derived.Test.YtmpnmcnjhpekaaaGh25
set_option linter.unusedSimpArgs false
namespace Go.Proofs.Gh
open Go.RowKit
section
variable {B : Base} {γ : Nat → Bx} {st : Nat → Prop} {ow : Nat → Option Ow} {hand : List (Value × C)} {σ : St} {w : World} {r : Res} {tmps : Array Value}

theorem enter_plain {m : Mode} {x : S} {u : Value} {ms : List Mode} {xs : List S} {bs : List Box} (h : m ≠ .ro → ∃ c, x = .one c ∧ c.asOwnB = false ∧ ∀ cs, c ≠ .bx cs) :
    enter (m :: ms) (x :: xs) bs = (x :: (enter ms xs bs).1, (enter ms xs bs).2) ∧ bxOf m x u = [] := by
  cases m with
  | ro => exact ⟨rfl, rfl⟩
  | io =>
    obtain ⟨c, rfl, h1, h2⟩ := h (by simp)
    cases c with
    | sl o nl sz es => cases o with
      | true => simp [C.asOwnB] at h1
      | false => exact ⟨rfl, rfl⟩
    | bx cs => exact absurd rfl (h2 cs)
    | _ => exact ⟨rfl, rfl⟩
  | tk =>
    obtain ⟨c, rfl, h1, h2⟩ := h (by simp)
    cases c with
    | sl o nl sz es => cases o with
      | true => simp [C.asOwnB] at h1
      | false => exact ⟨rfl, rfl⟩
    | _ => exact ⟨rfl, rfl⟩
theorem root_last {fr : Bool} {cs : List C} (k : Nat) : (σ.new fr cs).root σ.boxes.length k = cs[k]? := by rw [root_new, if_pos rfl]
theorem enter_ok {ms : List Mode} {xs : List S} {us : List Value} {hs : List (Value × C)} {gs : List Nat} (hA : Args st w B.Y ms xs us hs gs) : ∀ {γ : Nat → Bx} {ow : Nat → Option Ow} {slots : List S} {bs : List Box} {tmps : Array Value},
    Rel B γ st ow hs ⟨slots, bs⟩ tmps w → gs.Nodup → (∀ g ∈ gs, ow g = none) → (∀ i, B.pin i = none) →
    ∃ γ' ow', Rel B γ' st ow' [] ⟨slots ++ (enter ms xs bs).1, (enter ms xs bs).2⟩ (tmps ++ us.toArray) w ∧ (∀ i, i < bs.length → γ' i = γ i) ∧ (∀ (i : Nat) (x : Bx), (bxsOf ms xs us)[i]? = some x → γ' (bs.length + i) = x) ∧
      (enter ms xs bs).2.length = bs.length + (bxsOf ms xs us).length := by
  induction hA with
  | nil =>
    intro γ ow slots bs tmps R _ _ _
    exact ⟨γ, ow, by simpa [enter] using R, fun _ _ => rfl, by simp [bxsOf], by simp [enter, bxsOf]⟩
  | @cons m x u hs gs ms xs us hs' gs' ha _ ih =>
    intro γ ow slots bs tmps R hnd hg hpin
    have hp0 : ∀ (i : Nat) (y : Bx), B.pin i = some y → i < bs.length := fun i y h => by rw [hpin i] at h; cases h
    -- a box more, a slot more
    have step : ∀ {s : S} {bx : Bx} {fr : Bool} {cs : List C} {ow1 : Nat → Option Ow}, Rel B (fun r => if r = bs.length then bx else γ r) st ow1 hs' ⟨slots, bs ++ [⟨fr, cs⟩]⟩ tmps w →
        SlotOk ⟨slots, bs ++ [⟨fr, cs⟩]⟩ st (fun r => if r = bs.length then bx else γ r) w u s → enter (m :: ms) (x :: xs) bs = (s :: (enter ms xs (bs ++ [⟨fr, cs⟩])).1, (enter ms xs (bs ++ [⟨fr, cs⟩])).2) → bxOf m x u = [bx] → gs'.Nodup → (∀ g ∈ gs', ow1 g = none) →
        ∃ γ' ow', Rel B γ' st ow' [] ⟨slots ++ (enter (m :: ms) (x :: xs) bs).1, (enter (m :: ms) (x :: xs) bs).2⟩ (tmps ++ (u :: us).toArray) w ∧ (∀ i, i < bs.length → γ' i = γ i) ∧
          (∀ (i : Nat) (y : Bx), (bxsOf (m :: ms) (x :: xs) (u :: us))[i]? = some y → γ' (bs.length + i) = y) ∧ (enter (m :: ms) (x :: xs) bs).2.length = bs.length + (bxsOf (m :: ms) (x :: xs) (u :: us)).length := fun {s bx fr cs ow1} R1 hs1 he hb hn1 hg1 => by
      obtain ⟨γ', ow', R2, h1, h2, h3⟩ := ih (R1.push hs1) hn1 hg1 hpin
      have hl1 : (bs ++ [(⟨fr, cs⟩ : Box)]).length = bs.length + 1 := by simp
      refine ⟨γ', ow', ?_, fun i hi => ?_, fun i y hy => ?_, ?_⟩
      · rw [he]
        simpa using R2
      · rw [h1 i (by rw [hl1]; omega)]
        exact if_neg (by omega)
      · simp only [bxsOf, hb] at hy
        cases i with
        | zero =>
          simp at hy; subst hy
          have := h1 bs.length (by rw [hl1]; omega)
          simpa using this
        | succ i =>
          have := h2 i y (by simpa using hy)
          rw [hl1] at this
          rwa [show bs.length + 1 + i = bs.length + (i + 1) by omega] at this
      · rw [he, h3, hl1]
        simp [bxsOf, hb]; omega
    cases ha with
    | plain _ _ _ h1 h2 =>
      obtain ⟨he, hb⟩ := enter_plain (u := u) (ms := ms) (xs := xs) (bs := bs) h1
      obtain ⟨γ', ow', R2, e1, e2, e3⟩ := ih (Rel.push (s := x) (u := u) (by simpa using R) h2.empty) (by simpa using hnd) (by simpa using hg) hpin
      refine ⟨γ', ow', ?_, e1, ?_, ?_⟩
      · rw [he]; simpa using R2
      · simpa [bxsOf, hb] using e2
      · rw [he, e3]; simp [bxsOf, hb]
    | own _ _ nl sz es hm =>
      obtain ⟨ow1, R1, hn1⟩ := Rel.rotN (hand := []) (A := [(u, .sl true nl sz es)]) (D := hs') (by simpa using R)
      have hslot : ∀ {ow2 : Nat → Option Ow} {fr : Bool}, Rel B (fun r => if r = bs.length then .val [u] else γ r) st ow2 hs' (St.new ⟨slots, bs⟩ fr [.sl true nl sz es]) tmps w →
          SlotOk (St.new ⟨slots, bs⟩ fr [.sl true nl sz es]) st (fun r => if r = bs.length then .val [u] else γ r) w u (.one (.al ⟨bs.length, 0, []⟩)) := fun {ow2 fr} _ =>
        .one _ _ (.al _ _ (.sl true nl sz es) (by simp [St.nodeC, root_new, walkC]) (by simp) (by simp [placeV, cellV, walkV]))
      cases m with
      | ro => exact absurd rfl hm
      | io =>
        obtain ⟨ow2, R2, hn2⟩ := Rel.newBox (σ := ⟨slots, bs⟩) (hand := hs') (hs := [(u, .sl true nl sz es)]) (by simpa using R1) false (.val [u]) (.inl rfl) hp0
        exact step R2 (hslot R2) rfl rfl (by simpa using hnd) (fun g hgg => hn2 g (hn1 g (hg g (by simpa using hgg))) (by simp))
      | tk =>
        obtain ⟨ow2, R2, hn2⟩ := Rel.newBox (σ := ⟨slots, bs⟩) (hand := hs') (hs := [(u, .sl true nl sz es)]) (by simpa using R1) true (.val [u]) (.inl rfl) hp0
        exact step R2 (hslot R2) rfl rfl (by simpa using hnd) (fun g hgg => hn2 g (hn1 g (hg g (by simpa using hgg))) (by simp))
    | agg _ vs cs hm hl =>
      obtain ⟨ow1, R1, hn1⟩ := Rel.rotN (hand := []) (A := vs.zip cs) (D := hs') (by simpa using R)
      have hslot : ∀ {ow2 : Nat → Option Ow} {fr : Bool}, Rel B (fun r => if r = bs.length then .val ((vs.zip cs).map (·.1)) else γ r) st ow2 hs' (St.new ⟨slots, bs⟩ fr ((vs.zip cs).map (·.2))) tmps w →
          SlotOk (St.new ⟨slots, bs⟩ fr ((vs.zip cs).map (·.2))) st (fun r => if r = bs.length then .val ((vs.zip cs).map (·.1)) else γ r) w (.agg vs.toArray) (.agg (viewBox cs bs.length 0)) := fun {ow2 fr} R2 => by
        refine .agg vs _ (by rw [viewBox_length]; exact hl) fun i v c hv hc => ?_
        obtain ⟨d, hd, hcase⟩ := viewBox_get cs bs.length 0 i c hc
        have hroot : (St.new ⟨slots, bs⟩ fr ((vs.zip cs).map (·.2))).root bs.length i = some d := by
          have := root_last (σ := ⟨slots, bs⟩) (fr := fr) (cs := (vs.zip cs).map (·.2)) i
          rw [this, zip_snd _ _ hl]; exact hd
        obtain ⟨v', hv', hr⟩ := R2.cells _ _ _ hroot
        have hvv : v' = v := by
          simp only [cellV, if_true, zip_fst _ _ hl] at hv'
          rw [hv] at hv'; exact (Option.some.inj hv').symm
        subst hvv
        rcases hcase with ⟨ho, rfl⟩ | ⟨ho, rfl⟩
        · refine .al _ _ d ?_ (own_home ho).1 ?_
          · simp only [St.nodeC, Nat.zero_add, hroot, Option.bind_some, walkC]
          · simp only [placeV, Nat.zero_add, hv', Option.bind_some, walkV]
        · exact .rep _ _ (hr.noown ho)
      have hb : Bx.val ((vs.zip cs).map (·.1)) = Bx.val vs.toArray.toList := by rw [zip_fst _ _ hl]
      cases m with
      | ro => exact absurd rfl hm
      | io =>
        obtain ⟨ow2, R2, hn2⟩ := Rel.newBox (σ := ⟨slots, bs⟩) (hand := hs') (hs := vs.zip cs) (by simpa using R1) false (.val ((vs.zip cs).map (·.1))) (.inl rfl) hp0
        exact step R2 (hslot R2) (by rw [zip_snd _ _ hl]; rfl) (by rw [hb]; rfl) (by simpa using hnd) (fun g hgg => hn2 g (hn1 g (hg g (by simpa using hgg))) (by simp))
      | tk =>
        obtain ⟨ow2, R2, hn2⟩ := Rel.newBox (σ := ⟨slots, bs⟩) (hand := hs') (hs := vs.zip cs) (by simpa using R1) true (.val ((vs.zip cs).map (·.1))) (.inl rfl) hp0
        exact step R2 (hslot R2) (by rw [zip_snd _ _ hl]; rfl) (by rw [hb]; rfl) (by simpa using hnd) (fun g hgg => hn2 g (hn1 g (hg g (by simpa using hgg))) (by simp))
    | bx g o vs cs hl hlt hst hcell hfz =>
      obtain ⟨ow1, R1, hn1⟩ := Rel.rotN (hand := []) (A := vs.zip cs) (D := hs') (by simpa using R)
      have hnd' : g ∉ gs' ∧ gs'.Nodup := by simpa using hnd
      obtain ⟨ow2, R2, hn2⟩ := Rel.newBox (σ := ⟨slots, bs⟩) (hand := hs') (hs := vs.zip cs) (by simpa using R1) false (.mem g o) (.inr ⟨g, o, rfl, rfl, hn1 g (hg g (by simp)), hlt, hst, fun k x hx => by
          rw [List.getElem?_zip_eq_some] at hx; exact hcell k _ hx.1, fun k hk => by
          have hk' : k < cs.length := by simp at hk; omega
          exact ⟨(hfz k hk').1, fun _ => (hfz k hk').2⟩⟩) hp0
      refine step R2 (.one _ _ (.rep _ _ ?_)) (by rw [zip_snd _ _ hl]; rfl) rfl hnd'.2 (fun g' hgg => hn2 g' (hn1 g' (hg g' (by simp [hgg]))) (fun o' e => by cases e; exact hnd'.1 hgg))
      have := Rep.box (st := st) (w := w) (γ := fun r => if r = bs.length then Bx.mem g o else γ r) (bs.length + 1) bs.length 0 g o (fun _ => False) (by omega) (by simp)
      simpa [St.new] using this
/-- The pins are told anew. -/
theorem Rel.repin (R : Rel B γ st ow hand σ tmps w) {pin : Nat → Option Bx} (h : ∀ r x, pin r = some x → r < σ.boxes.length ∧ γ r = x) : Rel { B with pin := pin } γ st ow hand σ tmps w :=
  ⟨R.tab, R.size, R.slots, R.cells, R.mem, R.free, R.hands, R.lt, R.stlt, ⟨R.chg.os, R.chg.tape, R.chg.output, R.chg.size, R.chg.same, R.chg.part⟩, R.mine, h⟩
end
end Go.Proofs.Gh
