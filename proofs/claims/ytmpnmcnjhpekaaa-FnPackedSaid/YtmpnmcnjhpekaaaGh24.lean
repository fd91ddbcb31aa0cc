/- Behind a call: the caller's state and the callee's become one. -/
import Derived.Test.YtmpnmcnjhpekaaaGh23
set_option linter.unusedSimpArgs false
namespace Go.Proofs.Gh
open Go.RowKit
section
variable {B B' : Base} {γ γ2 : Nat → Bx} {st : Nat → Prop} {ow1 ow2 : Nat → Option Ow} {H : List (Value × C)} {σ1 : St} {w w' : World} {tmps : Array Value} {bs2 : List Box} {handR : List (Value × C)}

theorem Rel.merge (R1 : Rel B γ st ow1 H σ1 tmps w) (lent : List Nat) (hw : B'.w = w)
    (hY : ∀ b o, B'.Y b o → (∃ i, ow1 b = some (.hand i)) ∨ ∃ r ∈ lent, ∃ bx o0, σ1.boxes[r]? = some bx ∧ γ r = .mem b o0 ∧ o0 ≤ o ∧ o < o0 + bx.cs.length)
    (hst : ∀ b, st b → B'.st b) (R2 : Rel B' γ2 B'.st ow2 handR ⟨[], bs2⟩ #[] w')
    (hR : ∀ (i : Nat) (x : Value × C), handR[i]? = some x → Rep st γ2 w' 0 x.1 x.2 (fun b => ow2 b = some (.hand i)))
    {back : List (Value × C)} {idx : Nat → Nat → Option Nat} (hback : ∀ (i : Nat) (x : Value × C), back[i]? = some x → ∃ r k, idx r k = some i ∧ Rep st γ2 w' 0 x.1 x.2 (fun b => ow2 b = some (.cell r k)))
    (hlent : ∀ r ∈ lent, ∃ bx, σ1.boxes[r]? = some bx ∧ (∀ (k : Nat) (c : C), bx.cs[k]? = some c → c = .unk) ∧ ∃ g o r' bx', γ r = .mem g o ∧ γ2 r' = .mem g o ∧ bs2[r']? = some bx' ∧ bx'.cs.length = bx.cs.length) :
    (∃ ow3, Rel B γ st ow3 (handR ++ back) (σ1.kill fun c => lent.any fun r => c.hitBox r) tmps w' ∧ ∀ b r, ow1 b = none → ow2 b = some (.box r) → ow3 b = none) ∧ (∀ p d, σ1.nodeC p = some d → p.r ∉ lent → placeV γ w' p = placeV γ w p) := by
  subst hw
  have hsame : ∀ b, b < B'.w.heap.size → (∀ o, ¬ B'.Y b o) → w'.heap[b]? = B'.w.heap[b]? := fun b hb hn => R2.chg.same b hb hn
  -- whose block is written?
  have hYo : ∀ b o, B'.Y b o → (∃ i, ow1 b = some (.hand i)) ∨ ∃ r ∈ lent, ow1 b = some (.box r) ∧ ∃ bx o0, σ1.boxes[r]? = some bx ∧ γ r = .mem b o0 ∧ o0 ≤ o ∧ o < o0 + bx.cs.length := fun b o h => by
    rcases hY b o h with h | ⟨r, hr, bx, o0, h1, h2, h4, h3⟩
    · exact .inl h
    · exact .inr ⟨r, hr, (R1.mem r bx b o0 h1 h2).2.1, bx, o0, h1, h2, h4, h3⟩
  have hsSt : ∀ b, st b → w'.heap[b]? = B'.w.heap[b]? := fun b hb => by
    obtain ⟨h1, h2⟩ := R1.stlt b hb
    refine hsame b h1 fun o ho => ?_
    rcases hYo b o ho with ⟨i, h⟩ | ⟨r, _, h, _⟩ <;> rw [h2] at h <;> cases h
  have hsCell : ∀ b r k, ow1 b = some (.cell r k) → w'.heap[b]? = B'.w.heap[b]? := fun b r k hb => by
    refine hsame b (R1.lt b _ hb) fun o ho => ?_
    rcases hYo b o ho with ⟨i, h⟩ | ⟨r, _, h, _⟩ <;> rw [hb] at h <;> cases h
  have hsBox : ∀ b r, ow1 b = some (.box r) → r ∉ lent → w'.heap[b]? = B'.w.heap[b]? := fun b r hb hr => by
    refine hsame b (R1.lt b _ hb) fun o ho => ?_
    rcases hYo b o ho with ⟨i, h⟩ | ⟨r', hr', h, _⟩
    · rw [hb] at h; cases h
    · rw [hb] at h; cases h; exact hr hr'
  -- what the callee owns behind the call was in the hand, or is new
  have hG : ∀ b y, ow2 b = some y → (∀ r, y ≠ .box r) → (ow1 b = none ∧ B'.w.heap.size ≤ b) ∨ ∃ i, ow1 b = some (.hand i) := fun b y hb hy => by
    by_cases hlt : b < B'.w.heap.size
    · right
      have hall := R2.mine b y hb hlt hy
      rcases hYo b 0 (hall 0) with h | ⟨r, hr, h, bx, o0, h1, h2, _⟩
      · exact h
      · rcases hYo b (o0 + bx.cs.length) (hall _) with h' | ⟨r', hr', h', bx', o0', h1', h2', h4', h3'⟩
        · exact h'
        · rw [h] at h'; cases h'
          rw [h1] at h1'; cases h1'
          rw [h2] at h2'; cases h2'
          omega
    · left
      refine ⟨?_, by omega⟩
      cases ho : ow1 b with
      | none => rfl
      | some z => exact absurd (R1.lt b z ho) hlt
  have hcellV : ∀ r k c, σ1.root r k = some c → r ∉ lent → cellV γ w' r k = cellV γ B'.w r k := fun r k c hc hr => by
    unfold cellV
    cases hg : γ r with
    | val vs => rfl
    | mem g o =>
      obtain ⟨b, hb, _⟩ := root_box hc
      exact World.cell?_of_block (w := B'.w) (hsBox g r (R1.mem r b g o hb hg).2.1 hr)
  have hplace : ∀ p d, σ1.nodeC p = some d → p.r ∉ lent → placeV γ w' p = placeV γ B'.w p := fun p d hd hp => by
    obtain ⟨c, hc, hwc⟩ := nodeC_root hd
    obtain ⟨u, hu, hr⟩ := R1.cells _ _ _ hc
    unfold placeV
    rw [hcellV _ _ _ hc hp, hu]
    simp only [Option.bind_some]
    exact walkV_same p.steps hr hwc (fun b hb => hsCell b _ _ hb)
  refine ⟨?_, hplace⟩
  have how : ∃ ow3 : Nat → Option Ow, (∀ b r k, ow1 b = some (.cell r k) → ow3 b = some (.cell r k)) ∧ (∀ b r, ow1 b = some (.box r) → ow3 b = some (.box r)) ∧
      (∀ b i, ow2 b = some (.hand i) → ow3 b = some (.hand i)) ∧ (∀ b r k i, ow2 b = some (.cell r k) → idx r k = some i → ow3 b = some (.hand (handR.length + i))) ∧
      (∀ b, ow1 b = none → ow2 b = none → ow3 b = none) ∧ (∀ b r, ow1 b = none → ow2 b = some (.box r) → ow3 b = none) ∧
      (∀ b y, ow3 b = some y → (ow1 b = some y ∧ ∀ i, y ≠ .hand i) ∨ (∃ y', ow2 b = some y' ∧ (∀ r, y' ≠ .box r) ∧ (∀ r, y ≠ .box r))) := by
    refine ⟨fun b => match ow1 b with
      | some (.cell r k) => some (.cell r k)
      | some (.box r) => some (.box r)
      | _ => match ow2 b with
        | some (.hand i) => some (.hand i)
        | some (.cell r k) => (idx r k).map fun i => .hand (handR.length + i)
        | _ => none, fun b r k h => by simp [h], fun b r h => by simp [h], fun b i h => ?_, fun b r k i h hi => ?_, fun b h1 h2 => by simp [h1, h2], fun b r h1 h2 => by simp [h1, h2], fun b y h => ?_⟩
    · rcases hG b _ h (by simp) with ⟨h', _⟩ | ⟨j, h'⟩ <;> simp [h', h]
    · rcases hG b _ h (by simp) with ⟨h', _⟩ | ⟨j, h'⟩ <;> simp [h', h, hi]
    · have key : (match ow2 b with
          | some (.hand i) => some (Ow.hand i)
          | some (.cell r k) => (idx r k).map fun i => .hand (handR.length + i)
          | _ => none) = some y → (∃ y', ow2 b = some y' ∧ (∀ r, y' ≠ .box r) ∧ (∀ r, y ≠ .box r)) := fun h => by
        cases h2 : ow2 b with
        | none => rw [h2] at h; cases h
        | some y' =>
          rw [h2] at h
          cases y' with
          | box r => cases h
          | hand i => cases h; exact ⟨_, rfl, by simp, by simp⟩
          | cell r k =>
            simp only [Option.map_eq_some_iff] at h
            obtain ⟨i, _, rfl⟩ := h
            exact ⟨_, rfl, by simp, by simp⟩
      cases h1 : ow1 b with
      | none => simp only [h1] at h; exact .inr (key h)
      | some z =>
        simp only [h1] at h
        cases z with
        | cell r k => simp only [Option.some.injEq] at h; subst h; exact .inl ⟨rfl, by simp⟩
        | box r => simp only [Option.some.injEq] at h; subst h; exact .inl ⟨rfl, by simp⟩
        | hand i => exact .inr (key h)
  obtain ⟨ow3, how1, how2, how3, how4, how5, how7, how6⟩ := how
  have hlen : (σ1.kill fun c => lent.any fun r => c.hitBox r).boxes.length = σ1.boxes.length := rfl
  have hnodeC : ∀ p, (σ1.kill fun c => lent.any fun r => c.hitBox r).nodeC p = σ1.nodeC p := fun p => rfl
  refine ⟨ow3, ?_, how7⟩
  constructor
  · exact R1.tab
  · simpa [St.kill] using R1.size
  · intro t s u hs hu
    simp only [St.kill, List.getElem?_map] at hs
    cases hq : σ1.slots[t]? with
    | none => rw [hq] at hs; simp at hs
    | some s' =>
      rw [hq] at hs
      simp only [Option.map_some, Option.some.injEq] at hs
      subst hs
      refine (R1.slots t s' u hq hu).killed _ fun u c h hf => ?_
      have hnl : ∀ r, c.hitBox r = true → r ∉ lent := fun r hr hmem => by
        have : (lent.any fun r => c.hitBox r) = true := List.any_eq_true.2 ⟨r, hmem, hr⟩
        rw [this] at hf; cases hf
      clear hf
      induction h with
      | unk => exact .unk _
      | rep _ _ h => exact .rep _ _ (h.same fun b hb => hb.elim (hsSt b) (fun h => h.elim))
      | al q _ d hd hv hp => exact .al q _ d hd hv ((hplace q d hd (hnl q.r (by simp [C.hitBox]))).trans hp)
      | pl q before s d ad hs hd hx ha =>
        refine .pl q before s d ad hs hd hx ?_
        have hql := hnl q.r (by simp [C.hitBox, hs])
        obtain ⟨r, k, steps⟩ := q
        simp only at hs
        subst hs
        rw [placeA_append] at ha ⊢
        rw [hplace ⟨r, k, before⟩ d hd hql]
        exact ha
      | rp ad cs us h1 h2 h3 =>
        refine .rp ad cs us h1 (fun j c hj => ?_) (fun j c hj => (h3 j c hj).same fun b hb => hb.elim (hsSt b) (fun h => h.elim))
        have hne : cs ≠ [] := by intro e; subst e; simp at hj
        rw [World.cell?_of_block (w := B'.w) (by rw [add_block]; exact hsSt _ (h1 hne))]
        exact h2 j c hj
      | wi q sz l h' len cap ad h1 h2 h3 ih => exact .wi q sz l h' len cap ad (ih hnl) h2 h3
      | pa r k g o ps us h1 h2 h3 h4 i3 i4 =>
        refine .pa r k g o ps us h1 h2 (fun j q hq => i3 j q hq fun i hi => hnl i ?_) (fun j q hq => i4 j q hq fun i hi => hnl i ?_)
        · simp only [C.hitBox] at hi ⊢; rw [hi]; rfl
        · simp only [C.hitBox, Bool.or_eq_true] at hi ⊢
          exact .inr (List.any_eq_true.2 ⟨_, List.mem_of_getElem? hq, hi⟩)
  · intro r k c hc
    replace hc : σ1.root r k = some c := hc
    by_cases hl : r ∈ lent
    · obtain ⟨bx, hbx, hunk, g, o, r', bx', hg, hg2, hbx', hll⟩ := hlent r hl
      have hck : bx.cs[k]? = some c := by unfold St.root at hc; rw [hbx] at hc; exact hc
      have := hunk k c hck
      subst this
      have hlt : k < bx'.cs.length := by rw [hll]; exact (List.getElem?_eq_some_iff.1 hck).1
      obtain ⟨u, hu, hr⟩ := R2.cells r' k bx'.cs[k] (by unfold St.root; rw [hbx']; exact List.getElem?_eq_getElem hlt)
      refine ⟨u, ?_, .unk _ _ _ hr.one⟩
      unfold cellV at hu ⊢
      rw [hg2] at hu; rw [hg]; exact hu
    · obtain ⟨u, hu, hr⟩ := R1.cells r k c hc
      exact ⟨u, (hcellV r k c hc hl).trans hu, (hr.same fun b hb => hb.elim (hsSt b) (fun hb => hsCell b r k hb)).mono fun b hb => how1 b r k hb⟩
  · intro r b g o hb hg
    replace hb : σ1.boxes[r]? = some b := hb
    obtain ⟨h1, h2, h3⟩ := R1.mem r b g o hb hg
    refine ⟨h1, how2 g r h2, fun k hk => ⟨?_, (h3 k hk).2⟩⟩
    by_cases hl : r ∈ lent
    · obtain ⟨bx, hbx, _, g', o', r', bx', hg', hg2, hbx', hll⟩ := hlent r hl
      rw [hg] at hg'; cases hg'
      rw [hbx] at hb; cases hb
      exact ((R2.mem r' bx' g o hbx' hg2).2.2 k (by rw [hll]; exact hk)).1
    · exact (World.frozen?_of_block (w := B'.w) (hsBox g r h2 hl)).trans (h3 k hk).1
  · exact R1.free
  · intro i x hx
    rw [hlen]
    by_cases hi : i < handR.length
    · rw [List.getElem?_append_left hi] at hx
      exact ((hR i x hx).frame (fun _ h => h) (Nat.zero_le _) (fun r hr => absurd hr (Nat.not_lt_zero r)) (fun _ _ => rfl)).mono fun b hb => how3 b i hb
    · rw [List.getElem?_append_right (by omega)] at hx
      obtain ⟨r, k, hi', hrep⟩ := hback _ x hx
      refine (hrep.frame (fun _ h => h) (Nat.zero_le _) (fun r hr => absurd hr (Nat.not_lt_zero r)) (fun _ _ => rfl)).mono fun b hb => ?_
      have := how4 b r k _ hb hi'
      rwa [show handR.length + (i - handR.length) = i by omega] at this
  · intro b y hy
    rcases how6 b y hy with ⟨h, _⟩ | ⟨y', h, _⟩
    · exact Nat.lt_of_lt_of_le (R1.lt b y h) R2.chg.size
    · exact R2.lt b y' h
  · intro b hb
    have h1 := R1.stlt b hb
    exact ⟨Nat.lt_of_lt_of_le h1.1 R2.chg.size, how5 b h1.2 (R2.stlt b (hst b hb)).2⟩
  · have h1 := R1.chg
    have h2 := R2.chg
    have hnY : ∀ b o, b < B.w.heap.size → ¬ B.Y b o → ¬ B'.Y b o := fun b o hb hn ho => by
      rcases hY b o ho with ⟨i, h⟩ | ⟨r, hr, bx, o0, e1, e2, e4, e3⟩
      · exact hn (R1.mine b _ h hb (by simp) o)
      · have := ((R1.mem r bx b o0 e1 e2).2.2 (o - o0) (by omega)).2 hb
        rw [show o0 + (o - o0) = o by omega] at this
        exact hn this
    exact ⟨h2.os.trans h1.os, h2.tape.trans h1.tape, h2.output.trans h1.output, Nat.le_trans h1.size h2.size,
      fun b hb hn => (h2.same b (Nat.lt_of_lt_of_le hb h1.size) (fun o => hnY b o hb (hn o))).trans (h1.same b hb hn),
      fun b o hb hn => ⟨(h2.part b o (Nat.lt_of_lt_of_le hb h1.size) (hnY b o hb hn)).1.trans (h1.part b o hb hn).1, (h2.part b o (Nat.lt_of_lt_of_le hb h1.size) (hnY b o hb hn)).2.trans (h1.part b o hb hn).2⟩⟩
  · intro b y hy hb hne
    rcases how6 b y hy with ⟨h, _⟩ | ⟨y', h, hy', _⟩
    · exact R1.mine b y h hb hne
    · rcases hG b y' h hy' with ⟨_, h'⟩ | ⟨i, h'⟩
      · have := R1.chg.size; omega
      · exact R1.mine b _ h' hb (by simp)
  · exact R1.pin
end
end Go.Proofs.Gh
