/- A call's beginning: what is in the hand gets boxes of the callee's. -/
import Derived.Test.YtmpnmcnjhpekaaaGh24
set_option linter.unusedSimpArgs false
namespace Go.Proofs.Gh
open Go.RowKit
section
variable {B : Base} {γ : Nat → Bx} {st : Nat → Prop} {ow : Nat → Option Ow} {hand : List (Value × C)} {σ : St} {w : World} {r : Res} {tmps : Array Value}

open Classical in
/-- A box for what is in the hand last: of values alone, or of memory that was there before. -/
theorem Rel.newBox {hs : List (Value × C)} (R : Rel B γ st ow (hand ++ hs) σ tmps w) (fr : Bool) (bx : Bx)
    (h : bx = .val (hs.map (·.1)) ∨ ∃ g o, bx = .mem g o ∧ fr = false ∧ ow g = none ∧ g < w.heap.size ∧ ¬ st g ∧ (∀ (k : Nat) (x : Value × C), hs[k]? = some x → w.cell? ⟨g, o + k, none⟩ = some x.1) ∧
      ∀ k, k < hs.length → w.frozen? ⟨g, o + k, none⟩ = false ∧ (g < B.w.heap.size → B.Y g (o + k)))
    (hp : ∀ i x, B.pin i = some x → i < σ.boxes.length) :
    ∃ ow', Rel B (fun r => if r = σ.boxes.length then bx else γ r) st ow' hand (σ.new fr (hs.map (·.2))) tmps w ∧ ∀ b, ow b = none → (∀ o, bx ≠ .mem b o) → ow' b = none := by
  have hγ : ∀ r, r < σ.boxes.length → (fun r => if r = σ.boxes.length then bx else γ r) r = γ r := fun r hr => if_neg (by omega)
  have hl : (σ.new fr (hs.map (·.2))).boxes.length = σ.boxes.length + 1 := by simp [St.new]
  have hrep : ∀ {n u c X}, n ≤ σ.boxes.length → Rep st γ w n u c X →
      Rep st (fun r => if r = σ.boxes.length then bx else γ r) w (σ.new fr (hs.map (·.2))).boxes.length u c X := fun hn h =>
    h.frame (fun _ h => h) (by rw [hl]; omega) (fun r hr => hγ r (by omega)) (fun _ _ => rfl)
  have hg0 : ∀ b o, bx = .mem b o → ow b = none ∧ b < w.heap.size ∧ ¬ st b ∧ fr = false := fun b o e => by
    rcases h with h | ⟨g, o', h1, h2, h3, h4, h5, _⟩
    · rw [h] at e; cases e
    · rw [h1] at e; cases e; exact ⟨h3, h4, h5, h2⟩
  have how : ∃ ow' : Nat → Option Ow, (∀ b o, bx = .mem b o → ow' b = some (.box σ.boxes.length)) ∧ (∀ b i, ow b = some (.hand (hand.length + i)) → ow' b = some (.cell σ.boxes.length i)) ∧
      (∀ b y, ow b = some y → (∀ i, y ≠ .hand (hand.length + i)) → ow' b = some y) ∧ (∀ b, (∀ o, bx ≠ .mem b o) → ow b = none → ow' b = none) ∧
      (∀ b y, ow' b = some y → (∃ o, bx = .mem b o ∧ y = .box σ.boxes.length) ∨ (∃ y', ow b = some y' ∧ ((∀ r, y' ≠ .box r) ∨ y' = y))) := by
    refine ⟨fun b => if ∃ o, bx = .mem b o then some (.box σ.boxes.length) else match ow b with
      | some (.hand i) => if hand.length ≤ i then some (.cell σ.boxes.length (i - hand.length)) else some (.hand i)
      | x => x, fun b o e => by simp only; rw [if_pos ⟨o, e⟩], fun b i h => ?_, fun b y h hn => ?_, fun b hb h => ?_, fun b y h => ?_⟩
    · have : ¬ ∃ o, bx = .mem b o := fun ⟨o, e⟩ => by rw [(hg0 b o e).1] at h; cases h
      simp [this, h]
    · have : ¬ ∃ o, bx = .mem b o := fun ⟨o, e⟩ => by rw [(hg0 b o e).1] at h; cases h
      simp only [this, if_false, h]
      cases y with
      | hand i =>
        simp only
        rw [if_neg]
        intro hle
        exact hn (i - hand.length) (by rw [Nat.add_sub_cancel' hle])
      | _ => rfl
    · have : ¬ ∃ o, bx = .mem b o := fun ⟨o, e⟩ => hb o e
      simp [this, h]
    · by_cases hb : ∃ o, bx = .mem b o
      · simp only [hb, if_true, Option.some.injEq] at h
        obtain ⟨o, e⟩ := hb
        exact .inl ⟨o, e, h.symm⟩
      · simp only [hb, if_false] at h
        right
        cases ho : ow b with
        | none => rw [ho] at h; simp at h
        | some y' =>
          refine ⟨y', rfl, ?_⟩
          rw [ho] at h
          cases y' with
          | hand i => exact .inl (fun r => by simp)
          | box r => simp at h; exact .inr h
          | cell r k => simp at h; exact .inr h
  obtain ⟨ow', how1, how2, how3, how4, how5⟩ := how
  refine ⟨ow', ?_, fun b h1 h2 => how4 b h2 h1⟩
  constructor
  · exact R.tab
  · exact R.size
  · intro t s u hs' hu
    exact (R.slots t s u hs' hu).move fun u c h => h.grow (fun p c h => nodeC_new _ _ h) (by rw [hl]; omega) hγ (Grows.refl w) (fun _ h => h) (fun b hb => (R.stlt b hb).1)
  · intro r k c hc
    rw [root_new] at hc
    by_cases er : r = σ.boxes.length
    · rw [if_pos er] at hc
      subst er
      rw [List.getElem?_map] at hc
      cases hx : hs[k]? with
      | none => rw [hx] at hc; simp at hc
      | some x =>
        rw [hx] at hc
        simp only [Option.map_some, Option.some.injEq] at hc
        subst hc
        have hh := R.hands (hand.length + k) x (by rw [List.getElem?_append_right (by omega)]; simpa using hx)
        refine ⟨x.1, ?_, (hrep (Nat.le_refl _) hh).mono fun b hb => how2 b k hb⟩
        simp only [cellV, if_true]
        rcases h with h | ⟨g, o, h1, _, _, _, _, h6, _⟩
        · simp [h, hx]
        · simp only [h1]; exact h6 k x hx
    · rw [if_neg er] at hc
      obtain ⟨u, hu, hr⟩ := R.cells r k c hc
      exact ⟨u, (Grows.refl w).cellV (hγ r (root_lt hc)) hu, (hrep (Nat.le_refl _) hr).mono fun b hb => how3 b _ hb (by simp)⟩
  · intro r b g o hb hg
    by_cases er : r = σ.boxes.length
    · simp only [er, if_true] at hg
      subst er
      have hbb : b = ⟨fr, hs.map (·.2)⟩ := by simpa [St.new] using hb.symm
      subst hbb
      refine ⟨(hg0 g o hg).2.2.2, how1 g o hg, fun k hk => ?_⟩
      rcases h with h | ⟨g', o', h1, _, _, _, _, _, h7⟩
      · rw [h] at hg; cases hg
      · rw [h1] at hg; cases hg; exact h7 k (by simpa using hk)
    · simp only [if_neg er] at hg
      have hb' : σ.boxes[r]? = some b := by
        simp only [St.new] at hb
        rcases getElem?_snoc hb with ⟨_, h⟩ | ⟨h, _⟩
        · exact h
        · exact absurd h er
      obtain ⟨h1, h2, h3⟩ := R.mem r b g o hb' hg
      exact ⟨h1, how3 g _ h2 (by simp), h3⟩
  · intro r b hb hf
    simp only [St.new] at hb
    rcases getElem?_snoc hb with ⟨hlt, h'⟩ | ⟨e, h'⟩
    · obtain ⟨vs, hv⟩ := R.free r b h' hf
      exact ⟨vs, by simp only [show r ≠ σ.boxes.length by omega, if_false]; exact hv⟩
    · subst h'
      simp only at hf
      simp only [e, if_true]
      rcases h with h | ⟨g, o, _, h2, _⟩
      · exact ⟨_, h⟩
      · rw [h2] at hf; cases hf
  · intro i y hy
    have hi : i < hand.length := (List.getElem?_eq_some_iff.1 hy).1
    exact (hrep (Nat.le_refl _) (R.hands i y (by rw [List.getElem?_append_left hi]; exact hy))).mono fun b hb => how3 b _ hb (by intro j; simp; omega)
  · intro b y hy
    rcases how5 b y hy with ⟨o, e, _⟩ | ⟨y', h, _⟩
    · exact (hg0 b o e).2.1
    · exact R.lt b _ h
  · intro b hb
    have := R.stlt b hb
    exact ⟨this.1, how4 b (fun o e => (hg0 b o e).2.2.1 hb) this.2⟩
  · exact R.chg
  · intro b y hy hb hne
    rcases how5 b y hy with ⟨o, e, h⟩ | ⟨y', h, h'⟩
    · exact absurd h (hne _)
    · refine R.mine b _ h hb ?_
      rcases h' with h' | h'
      · exact h'
      · rw [h']; exact hne
  · intro i x hx
    have h1 := hp i x hx
    exact ⟨by rw [hl]; omega, (hγ i h1).trans (R.pin i x hx).2⟩
/-- One more slot. -/
theorem Rel.push (R : Rel B γ st ow hand σ tmps w) {u : Value} {s : S} (h : SlotOk σ st γ w u s) : Rel B γ st ow hand ⟨σ.slots ++ [s], σ.boxes⟩ (tmps.push u) w := by
  have hm : ∀ {u s}, SlotOk σ st γ w u s → SlotOk ⟨σ.slots ++ [‹S›], σ.boxes⟩ st γ w u s := fun h => h.move fun u c h => CellOk.boxes (σ := σ) rfl h
  constructor
  · exact R.tab
  · simp [R.size]
  · intro t s' u' hs hu
    rcases getElem?_snoc hs with ⟨hlt, hs⟩ | ⟨rfl, rfl⟩
    · rw [Array.getElem?_push, if_neg (by rw [R.size]; omega)] at hu
      exact (R.slots t s' u' hs hu).move fun u c h => CellOk.boxes (σ := σ) rfl h
    · rw [Array.getElem?_push, if_pos R.size.symm] at hu
      cases hu
      exact h.move fun u c h => CellOk.boxes (σ := σ) rfl h
  · exact R.cells
  · exact R.mem
  · exact R.free
  · exact R.hands
  · exact R.lt
  · exact R.stlt
  · exact R.chg
  · exact R.mine
  · exact R.pin
/-- No slots. -/
theorem Rel.noSlots (R : Rel B γ st ow hand σ tmps w) : Rel B γ st ow hand ⟨[], σ.boxes⟩ #[] w := by
  constructor
  · exact R.tab
  · rfl
  · intro t s u hs; simp at hs
  · exact R.cells
  · exact R.mem
  · exact R.free
  · exact R.hands
  · exact R.lt
  · exact R.stlt
  · exact R.chg
  · exact R.mine
  · exact R.pin
/-- What an argument is to its callee. -/
inductive Arg (st : Nat → Prop) (w : World) (Y : Nat → Nat → Prop) : Mode → S → Value → List (Value × C) → List Nat → Prop
  | plain (m x u) : (m ≠ .ro → ∃ c, x = .one c ∧ c.asOwnB = false ∧ ∀ cs, c ≠ .bx cs) → SlotOk ⟨[], []⟩ st (fun _ => .val []) w u x → Arg st w Y m x u [] []
  | own (m u nl sz es) : m ≠ .ro → Arg st w Y m (.one (.sl true nl sz es)) u [(u, .sl true nl sz es)] []
  | agg (m) (us : List Value) (cs : List C) : m ≠ .ro → us.length = cs.length → Arg st w Y m (.agg cs) (.agg us.toArray) (us.zip cs) []
  | bx (g o) (us : List Value) (cs : List C) : us.length = cs.length → g < w.heap.size → ¬ st g → (∀ (k : Nat) (u : Value), us[k]? = some u → w.cell? ⟨g, o + k, none⟩ = some u) →
      (∀ k, k < cs.length → w.frozen? ⟨g, o + k, none⟩ = false ∧ Y g (o + k)) → Arg st w Y .io (.one (.bx cs)) (.pointer (some ⟨g, o, none⟩)) (us.zip cs) [g]
inductive Args (st : Nat → Prop) (w : World) (Y : Nat → Nat → Prop) : List Mode → List S → List Value → List (Value × C) → List Nat → Prop
  | nil : Args st w Y [] [] [] [] []
  | cons {m x u hs gs ms xs us hs' gs'} : Arg st w Y m x u hs gs → Args st w Y ms xs us hs' gs' → Args st w Y (m :: ms) (x :: xs) (u :: us) (hs ++ hs') (gs ++ gs')
def bxOf : Mode → S → Value → List Bx
  | .ro, _, _ => []
  | _, .one (.sl true _ _ _), u => [.val [u]]
  | _, .agg _, .agg us => [.val us.toList]
  | .io, .one (.bx _), .pointer (some a) => [.mem a.block a.off]
  | _, _, _ => []
def bxsOf : List Mode → List S → List Value → List Bx
  | m :: ms, x :: xs, u :: us => bxOf m x u ++ bxsOf ms xs us
  | _, _, _ => []
theorem SlotOk.empty {γ0 : Nat → Bx} {u : Value} {s : S} (h : SlotOk ⟨[], []⟩ st γ0 w u s) : SlotOk σ st γ w u s := by
  refine h.move fun u c h => ?_
  cases h with
  | pa r k g o ps us h1 => exact absurd h1 (Nat.not_lt_zero _)
  | wi q sz l h' len cap ad h1 =>
    obtain ⟨d, hd, _⟩ := cell_al h1
    simp [St.nodeC, St.root] at hd
  | unk => exact .unk _
  | rep _ _ h => exact .rep _ _ (h.frame (fun _ h => h) (Nat.zero_le _) (fun r hr => absurd hr (Nat.not_lt_zero r)) (fun _ _ => rfl))
  | al q _ d hd => simp [St.nodeC, St.root] at hd
  | pl q before s d ad _ hd => simp [St.nodeC, St.root] at hd
  | rp ad cs us h1 h2 h3 => exact .rp ad cs us h1 h2 (fun j c hj => (h3 j c hj).frame (fun _ h => h) (Nat.le_refl _) (fun r hr => absurd hr (Nat.not_lt_zero r)) (fun _ _ => rfl))
end
end Go.Proofs.Gh
