/- What a callee sees of what stays the caller's; what comes back. -/
import Derived.Test.YtmpnmcnjhpekaaaGh26
set_option linter.unusedSimpArgs false
namespace Go.Proofs.Gh
open Go.RowKit
section
variable {B : Base} {γ : Nat → Bx} {st st' : Nat → Prop} {ow : Nat → Option Ow} {hand : List (Value × C)} {σ : St} {w : World} {r : Res} {tmps : Array Value}

theorem freezeRows_len : ∀ (es : List (List C)), (freezeRows es).length = es.length
  | [] => rfl
  | r :: rs => by simp [freezeRows, freezeRows_len rs]
theorem freezeRow_len : ∀ (cs : List C), (freezeRow cs).length = cs.length
  | [] => rfl
  | c :: cs => by simp [freezeRow, freezeRow_len cs]
theorem freezeRows_get : ∀ (es : List (List C)) (i : Nat) (row : List C), (freezeRows es)[i]? = some row → ∃ row0, es[i]? = some row0 ∧ row = freezeRow row0
  | [], i, row, h => by simp [freezeRows] at h
  | r :: rs, i, row, h => by
    simp only [freezeRows] at h
    cases i with
    | zero => simp at h; exact ⟨r, rfl, h.symm⟩
    | succ i => obtain ⟨row0, h1, h2⟩ := freezeRows_get rs i row (by simpa using h); exact ⟨row0, by simpa using h1, h2⟩
theorem freezeRow_get : ∀ (cs : List C) (i : Nat) (c : C), (freezeRow cs)[i]? = some c → ∃ d, cs[i]? = some d ∧ c = d.freeze
  | [], i, c, h => by simp [freezeRow] at h
  | d :: ds, i, c, h => by
    simp only [freezeRow] at h
    cases i with
    | zero => simp at h; exact ⟨d, rfl, h.symm⟩
    | succ i => obtain ⟨d0, h1, h2⟩ := freezeRow_get ds i c (by simpa using h); exact ⟨d0, by simpa using h1, h2⟩
theorem freezeRows_nil {es : List (List C)} (h : freezeRows es ≠ []) : es ≠ [] := fun e => h (by rw [e]; rfl)
/-- What stays as it is while a call runs is only read there. -/
theorem Rep.freeze {n : Nat} {u : Value} {c : C} {X : Nat → Prop} (h : Rep st γ w n u c X) (h0 : n = 0) (hst : ∀ b, st b → st' b) (hX : ∀ b, X b → st' b) : Rep st' γ w 0 u c.freeze (fun _ => False) := by
  induction h with
  | unk _ _ _ h1 => exact .unk _ _ _ h1
  | v _ x _ h1 =>
    have : (C.v x).freeze = .v x := by simp [C.freeze]
    rw [this]; exact .v _ _ _ h1
  | nil _ o nl sz _ h1 =>
    have : (C.sl o nl sz []).freeze = .sl false nl sz [] := by simp [C.freeze, freezeRows]
    rw [this]; exact .nil _ _ _ _ _ h1
  | ro _ a cap sz nl es us _ h1 h2 h3 h4 h5 h6 h7 ih =>
    have hf : (C.sl false nl sz es).freeze = .sl false nl sz (freezeRows es) := by simp [C.freeze]
    rw [hf, ← freezeRows_len es]
    refine .ro _ _ _ _ _ _ us _ h1 (fun he => hst _ (h2 (freezeRows_nil he))) (by rw [freezeRows_len]; exact h3) h4 (fun i row hi => ?_) (fun i row j c hi hj => ?_) (fun i row j c hi hj => ?_)
    · obtain ⟨row0, e1, rfl⟩ := freezeRows_get es i row hi
      rw [freezeRow_len]; exact h5 i row0 e1
    · obtain ⟨row0, e1, rfl⟩ := freezeRows_get es i row hi
      obtain ⟨d, e2, rfl⟩ := freezeRow_get row0 j c hj
      exact h6 i row0 j d e1 e2
    · obtain ⟨row0, e1, rfl⟩ := freezeRows_get es i row hi
      obtain ⟨d, e2, rfl⟩ := freezeRow_get row0 j c hj
      exact ih i row0 j d e1 e2 rfl (fun b hb => hb.elim)
  | own _ g o cap sz nl es us Xs e cur _ h1 h2 h3 h4 h5 h6 h7 h8 h9 h10 h11 h12 ih =>
    have hf : (C.sl true nl sz es).freeze = .sl false nl sz (freezeRows es) := by simp [C.freeze]
    rw [hf, ← freezeRows_len es]
    refine .ro _ _ _ _ _ _ us _ h1 (fun he => hX _ h2) (by rw [freezeRows_len]; exact h5) h6 (fun i row hi => ?_) (fun i row j c hi hj => ?_) (fun i row j c hi hj => ?_)
    · obtain ⟨row0, e1, rfl⟩ := freezeRows_get es i row hi
      rw [freezeRow_len]; exact h7 i row0 e1
    · obtain ⟨row0, e1, rfl⟩ := freezeRows_get es i row hi
      obtain ⟨d, e2, rfl⟩ := freezeRow_get row0 j c hj
      rw [add_lit, cell_of_row w g _ cur e (0, 0) h3]
      exact h8 i row0 j d e1 e2
    · obtain ⟨row0, e1, rfl⟩ := freezeRows_get es i row hi
      obtain ⟨d, e2, rfl⟩ := freezeRow_get row0 j c hj
      exact ih i row0 j d e1 e2 rfl (fun b hb => hX b (h10 i j b hb))
  | fn _ f caps us _ h1 h2 ih =>
    have : (C.fn f caps).freeze = .fn f caps := by simp [C.freeze]
    rw [this]
    refine .fn _ _ _ _ _ h1 (fun i c u hc hu => (h2 i c u hc hu).frame hst (by omega) (fun r hr => rfl) (fun _ _ => rfl))
  | ifcNil _ _ =>
    have : (C.ifc true).freeze = .ifc true := by simp [C.freeze]
    rw [this]; exact .ifcNil _ _
  | ifc _ t u _ =>
    have : (C.ifc false).freeze = .ifc false := by simp [C.freeze]
    rw [this]; exact .ifc _ _ _ _
  | rp _ ad cs us _ h1 h2 h3 ih =>
    have : (C.rp cs).freeze = .rp cs := by simp [C.freeze]
    rw [this]
    exact .rp _ ad cs us _ (fun he => hst _ (h1 he)) h2 (fun j c hj => (h3 j c hj).frame hst (Nat.le_refl _) (fun r hr => rfl) (fun _ _ => rfl))
  | box _ r k g o _ h1 h2 => omega
  | mp _ g kvs ms clk _ h1 h2 h3 h4 =>
    have : (C.mp kvs).freeze = .unk := by simp [C.freeze]
    rw [this]; exact .unk _ _ _ rfl

open Classical in
/-- BACK: a node gets its content back; memory stays as it is. -/
theorem Rel.putBack {u : Value} {nl : Option Bool} {sz : Nat} {es : List (List C)} (R : Rel B γ st ow (hand ++ [(u, .sl true nl sz es)]) σ tmps w) {p : Place} {d0 : C} (h0 : σ.nodeC p = some d0) (hv : placeV γ w p = some u) :
    ∃ ow', Rel B γ st ow' hand ((σ.put p (.sl true nl sz es)).kill (C.beyond p)) tmps w := by
  obtain ⟨c, u0, v, Z, k, hc, hu, hv', hvr, hk, hZ, hr, hwc, hp⟩ := R.node h0
  rw [hv] at hv'; cases hv'
  have hlen : ((σ.put p (.sl true nl sz es)).kill (C.beyond p)).boxes.length = σ.boxes.length := length_put _ _ _
  have hh := R.hands hand.length (u, .sl true nl sz es) (getElem?_snoc_self _ _)
  have hsame : ∀ b y, ow b = some y → y ≠ .hand hand.length → (if ow b = some (.hand hand.length) then some (.cell p.r p.k) else ow b) = some y := fun b y h hn => by
    rw [if_neg (by rw [h]; simp; exact hn), h]
  have hback : ∀ b y, (if ow b = some (.hand hand.length) then some (.cell p.r p.k) else ow b) = some y → ∃ y', ow b = some y' ∧ ((∀ r, y' ≠ .box r) ∨ y' = y) := fun b y h => by
    by_cases e : ow b = some (.hand hand.length)
    · exact ⟨_, e, .inl (by simp)⟩
    · rw [if_neg e] at h; exact ⟨y, h, .inr rfl⟩
  refine ⟨fun b => if ow b = some (.hand hand.length) then some (.cell p.r p.k) else ow b, ?_⟩
  constructor
  · exact R.tab
  · simpa [St.kill, St.put] using R.size
  · intro t s u hs hu
    simp only [St.kill, St.put, List.getElem?_map] at hs
    cases hq : σ.slots[t]? with
    | none => rw [hq] at hs; simp at hs
    | some s' =>
      rw [hq] at hs
      simp only [Option.map_some, Option.some.injEq] at hs
      subst hs
      exact (R.slots t s' u hq hu).killed _ fun u c h hf => CellOk.boxes (σ := σ.put p (.sl true nl sz es)) rfl (CellOk.put (c' := .sl true nl sz es) h0 h (.inl hf) (fun x => by simp))
  · intro r j c1 hc1
    rw [root_kill, root_put] at hc1
    rw [hlen]
    by_cases e : r = p.r ∧ j = p.k
    · rw [if_pos e] at hc1
      obtain ⟨e1, e2⟩ := e
      subst e1 e2
      rw [hc] at hc1
      simp only [Option.map_some, Option.some.injEq] at hc1
      subst hc1
      refine ⟨u0, hu, ?_⟩
      have hin : Rep st γ w k u (.sl true nl sz es) (fun b => ow b = some (.hand hand.length)) := by
        have := hh.keepC (n := 0) (m := k) (γ' := γ) (Nat.zero_le _) (fun _ _ => rfl)
        exact this
      have h1 := hp (.sl true nl sz es) _ hin (fun b h1 h2 => by rw [h1] at h2; cases h2)
      refine h1.mono fun b hb => ?_
      rcases hb with ⟨hb, _⟩ | hb
      · exact hsame b _ hb (by simp)
      · rw [if_pos hb]
    · rw [if_neg e] at hc1
      obtain ⟨u1, hu1, hr1⟩ := R.cells r j c1 hc1
      exact ⟨u1, hu1, hr1.mono fun b hb => hsame b _ hb (by simp)⟩
  · intro r b g o hb hg
    obtain ⟨b', hb', h1, h2⟩ := box_put (show (σ.put p (.sl true nl sz es)).boxes[r]? = some b from hb)
    obtain ⟨h3, h4, h5⟩ := R.mem r b' g o hb' hg
    exact ⟨by rw [← h1]; exact h3, hsame g _ h4 (by simp), fun k hk => h5 k (by rw [h2]; exact hk)⟩
  · intro r b hb hf
    obtain ⟨b', hb', h1, _⟩ := box_put (show (σ.put p (.sl true nl sz es)).boxes[r]? = some b from hb)
    exact R.free r b' hb' (h1.trans hf)
  · intro i x hx
    rw [hlen]
    have hi : i < hand.length := (List.getElem?_eq_some_iff.1 hx).1
    exact (R.hands i x (by rw [List.getElem?_append_left hi]; exact hx)).mono fun b hb => hsame b _ hb (by simp; omega)
  · intro b y hy
    obtain ⟨y', h, _⟩ := hback b y hy
    exact R.lt b y' h
  · intro b hb
    have := R.stlt b hb
    exact ⟨this.1, by rw [if_neg (by rw [this.2]; simp)]; exact this.2⟩
  · exact R.chg
  · intro b y hy hb hne
    obtain ⟨y', h, h'⟩ := hback b y hy
    refine R.mine b _ h hb ?_
    rcases h' with h' | h'
    · exact h'
    · rw [h']; exact hne
  · intro i x hx
    rw [hlen]; exact R.pin i x hx
/-- BACK: a box gets its content back. -/
theorem Rel.fillBox {hs : List (Value × C)} (R : Rel B γ st ow (hand ++ hs) σ tmps w) {i : Nat} {b0 : Box} (hb0 : σ.boxes[i]? = some b0) (hl : hs.length = b0.cs.length)
    (hv : ∀ (k : Nat) (x : Value × C), hs[k]? = some x → cellV γ w i k = some x.1) :
    ∃ ow', Rel B γ st ow' hand ({ σ with boxes := σ.boxes.set i ⟨b0.free, hs.map Prod.snd⟩ }.kill (C.hitBox i)) tmps w := by
  have hilt : i < σ.boxes.length := (List.getElem?_eq_some_iff.1 hb0).1
  have hlen : ({ σ with boxes := σ.boxes.set i ⟨b0.free, hs.map Prod.snd⟩ }.kill (C.hitBox i)).boxes.length = σ.boxes.length := by simp [St.kill]
  have hroot : ∀ (r k : Nat), ({ σ with boxes := σ.boxes.set i ⟨b0.free, hs.map Prod.snd⟩ }.kill (C.hitBox i)).root r k = if r = i then (hs.map Prod.snd)[k]? else σ.root r k := fun r k => by
    unfold St.root St.kill
    simp only [List.getElem?_set]
    by_cases e : i = r
    · subst e; simp [hilt]
    · simp [e, Ne.symm e]
  have hbox : ∀ (r : Nat) (b : Box), ({ σ with boxes := σ.boxes.set i ⟨b0.free, hs.map Prod.snd⟩ }.kill (C.hitBox i)).boxes[r]? = some b → ∃ b' : Box, σ.boxes[r]? = some b' ∧ b'.free = b.free ∧ b'.cs.length = b.cs.length := fun r b h => by
    simp only [St.kill, List.getElem?_set] at h
    by_cases e : i = r
    · subst e
      simp [hilt] at h
      subst h
      exact ⟨b0, hb0, rfl, by simpa using hl.symm⟩
    · rw [if_neg e] at h; exact ⟨b, h, rfl, rfl⟩
  have how : ∃ ow' : Nat → Option Ow, (∀ b k, ow b = some (.hand (hand.length + k)) → ow' b = some (.cell i k)) ∧ (∀ b y, ow b = some y → (∀ k, y ≠ .hand (hand.length + k)) → ow' b = some y) ∧ (∀ b, ow b = none → ow' b = none) ∧
      (∀ b y, ow' b = some y → ∃ y', ow b = some y' ∧ ((∀ r, y' ≠ .box r) ∨ y' = y)) := by
    refine ⟨fun b => match ow b with
      | some (.hand k) => if hand.length ≤ k then some (.cell i (k - hand.length)) else some (.hand k)
      | x => x, fun b k h => by simp [h], fun b y h hn => ?_, fun b h => by simp [h], fun b y h => ?_⟩
    · simp only [h]
      cases y with
      | hand k =>
        simp only
        rw [if_neg]
        intro hle
        exact hn (k - hand.length) (by rw [Nat.add_sub_cancel' hle])
      | _ => rfl
    · simp only at h
      cases ho : ow b with
      | none => rw [ho] at h; simp at h
      | some y' =>
        refine ⟨y', rfl, ?_⟩
        rw [ho] at h
        cases y' with
        | hand k => exact .inl (fun r => by simp)
        | box r => simp at h; exact .inr h
        | cell r k => simp at h; exact .inr h
  obtain ⟨ow', how1, how2, how3, how4⟩ := how
  refine ⟨ow', ?_⟩
  constructor
  · exact R.tab
  · simpa [St.kill] using R.size
  · intro t s u hs' hu
    simp only [St.kill, List.getElem?_map] at hs'
    cases hq : σ.slots[t]? with
    | none => rw [hq] at hs'; simp at hs'
    | some s' =>
      rw [hq] at hs'
      simp only [Option.map_some, Option.some.injEq] at hs'
      subst hs'
      refine (R.slots t s' u hq hu).killed _ fun u c h hf => ?_
      have hnode : ∀ (q : Place), q.r ≠ i → ({ σ with boxes := σ.boxes.set i ⟨b0.free, hs.map Prod.snd⟩ }.kill (C.hitBox i)).nodeC q = σ.nodeC q := fun q hq => by
        unfold St.nodeC; rw [hroot, if_neg hq]
      induction h with
      | unk => exact .unk _
      | rep _ _ h => exact .rep _ _ (by rw [hlen]; exact h)
      | al q _ d hd hv hp => exact .al q _ d ((hnode q (fun e => by simp [C.hitBox, e] at hf)).trans hd) hv hp
      | pl q before s d ad hs hd hx ha => exact .pl q before s d ad hs ((hnode ⟨q.r, q.k, before⟩ (fun e => by simp only at e; simp [C.hitBox, e, hs] at hf)).trans hd) hx ha
      | rp ad cs us h1 h2 h3 => exact .rp ad cs us h1 h2 h3
      | wi q sz l h' len cap ad h1 h2 h3 ih => exact .wi q sz l h' len cap ad (ih hf) h2 h3
      | pa r k g o ps us h1 h2 h3 h4 i3 i4 =>
        simp only [C.hitBox, Bool.or_eq_false_iff] at hf
        exact .pa r k g o ps us (by rw [hlen]; exact h1) h2 (fun j q hq => i3 j q hq hf.1) (fun j q hq => i4 j q hq (paAny_false hf.2 hq))
  · intro r k c hc
    rw [hroot] at hc
    rw [hlen]
    by_cases e : r = i
    · rw [if_pos e] at hc
      subst e
      rw [List.getElem?_map] at hc
      cases hx : hs[k]? with
      | none => rw [hx] at hc; simp at hc
      | some x =>
        rw [hx] at hc
        simp only [Option.map_some, Option.some.injEq] at hc
        subst hc
        exact ⟨x.1, hv k x hx, (R.hands (hand.length + k) x (by rw [List.getElem?_append_right (by omega)]; simpa using hx)).mono fun b hb => how1 b k hb⟩
    · rw [if_neg e] at hc
      obtain ⟨u, hu, hr⟩ := R.cells r k c hc
      exact ⟨u, hu, hr.mono fun b hb => how2 b _ hb (by simp)⟩
  · intro r b g o hb hg
    obtain ⟨b', hb', h1, h2⟩ := hbox r b hb
    obtain ⟨h3, h4, h5⟩ := R.mem r b' g o hb' hg
    exact ⟨by rw [← h1]; exact h3, how2 g _ h4 (by simp), fun k hk => h5 k (by rw [h2]; exact hk)⟩
  · intro r b hb hf
    obtain ⟨b', hb', h1, _⟩ := hbox r b hb
    exact R.free r b' hb' (h1.trans hf)
  · intro j x hx
    rw [hlen]
    have hj : j < hand.length := (List.getElem?_eq_some_iff.1 hx).1
    exact (R.hands j x (by rw [List.getElem?_append_left hj]; exact hx)).mono fun b hb => how2 b _ hb (by intro k; simp; omega)
  · intro b y hy
    obtain ⟨y', h, _⟩ := how4 b y hy
    exact R.lt b y' h
  · intro b hb
    have := R.stlt b hb
    exact ⟨this.1, how3 b this.2⟩
  · exact R.chg
  · intro b y hy hb hne
    obtain ⟨y', h, h'⟩ := how4 b y hy
    refine R.mine b _ h hb ?_
    rcases h' with h' | h'
    · exact h'
    · rw [h']; exact hne
  · intro j x hx
    rw [hlen]; exact R.pin j x hx
/-- The callee's very first state: all that it gets is in the hand. -/
theorem Rel.callee (R : Rel B γ st ow hand σ tmps w) {Y : Nat → Nat → Prop} {st' : Nat → Prop} {γ' : Nat → Bx} (hst : ∀ b, st b → st' b) (hst' : ∀ b, st' b → b < w.heap.size ∧ ∀ i, ow b ≠ some (.hand i)) (hY : ∀ b i o, ow b = some (.hand i) → Y b o)
    (hn : ∀ x ∈ hand, x.2.Nests) (hY0 : ∀ b, st b → ∀ o, ¬ Y b o) : ∃ ow', Rel ⟨w, Y, st', fun _ => none⟩ γ' st' ow' hand ⟨[], []⟩ #[] w ∧ ∀ b, (∀ i, ow b ≠ some (.hand i)) → ow' b = none := by
  refine ⟨fun b => match ow b with | some (.hand i) => some (.hand i) | _ => none, ?_, fun b hb => ?_⟩
  · have hback : ∀ b y, (match ow b with | some (.hand i) => some (Ow.hand i) | _ => none) = some y → ow b = some y ∧ ∃ i, y = .hand i := fun b y h => by
      split at h
      · rename_i i e; cases h; exact ⟨e, i, rfl⟩
      · cases h
    constructor
    · intro x hx
      obtain ⟨⟨t, fr, h1⟩, h2, h3⟩ := R.tab x hx
      have hlt : x.1 < B.w.heap.size := (Array.getElem?_eq_some_iff.1 h1).1
      exact ⟨⟨t, fr, (R.chg.same x.1 hlt h2).trans h1⟩, hY0 _ h3, hst _ h3⟩
    · rfl
    · intro t s u hs; simp at hs
    · intro r k c hc; simp [St.root] at hc
    · intro r b g o hb; simp at hb
    · intro r b hb; simp at hb
    · intro i x hx
      have := (R.hands i x hx).nest (hn x (List.mem_of_getElem? hx))
      exact (this.frame (γ' := γ') hst (Nat.le_refl 0) (fun r hr => absurd hr (Nat.not_lt_zero r)) (fun _ _ => rfl)).mono fun b hb => by simp only [hb]
    · intro b y hy; exact R.lt b y (hback b y hy).1
    · intro b hb
      obtain ⟨h1, h2⟩ := hst' b hb
      refine ⟨h1, ?_⟩
      split
      · rename_i i e; exact absurd e (h2 i)
      · rfl
    · exact ⟨rfl, rfl, rfl, Nat.le_refl _, fun _ _ _ => rfl, fun _ _ _ _ => ⟨rfl, rfl⟩⟩
    · intro b y hy _ _ o
      obtain ⟨h, i, rfl⟩ := hback b y hy
      exact hY b i o h
    · intro r x hx; cases hx
  · dsimp only
    split
    · rename_i i e; exact absurd e (hb i)
    · rfl
end
end Go.Proofs.Gh
