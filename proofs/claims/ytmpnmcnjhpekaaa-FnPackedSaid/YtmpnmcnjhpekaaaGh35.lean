/- A call, whole. -/
import Derived.Test.YtmpnmcnjhpekaaaGh34
set_option linter.unusedSimpArgs false
namespace Go.Proofs.Gh
open Go.RowKit
section
variable {P : Program} {E : Env} {B : Base} {γ γ3 : Nat → Bx} {st st' : Nat → Prop} {ow : Nat → Option Ow} {hand : List (Value × C)} {σ σ0 σ1 : St} {w w' : World} {r : Res} {tmps : Array Value}

theorem lens_tail {x o : S} {xs os : List S} (h : lensOk (x :: xs) (o :: os) = true) : lensOk xs os = true := by
  unfold lensOk at h
  split at h
  · rename_i e1 e2
    simp only [List.cons.injEq] at e1 e2
    simp only [Bool.and_eq_true] at h
    rw [e1.2, e2.2]; exact h.2
  · rename_i e1 e2
    simp only [List.cons.injEq] at e1 e2
    rw [e1.2, e2.2]; exact h
  · rename_i hno
    exact absurd rfl (hno x xs o os rfl)
/-- Where a lent box lies at its callee's. -/
theorem lent_find {bxs : List Nat} {ms : List Mode} {xs : List S} {us : List Value} {ys : List S} {H : List (Value × C)} {gs : List Nat} (hL : LentAll σ0 st γ w bxs ms xs us ys H gs) :
    ∀ {zs : List S} {bs : List Box} {j : Nat}, Shown ms ys zs → (bxsOf ms zs us).length ≤ bs.length → (∀ (i : Nat) (x : Bx), (bxsOf ms zs us)[i]? = some x → γ3 (j + i) = x) → lensOk zs (outs ms zs bs) = true →
      ∀ i ∈ gs, ∃ g o q bx' b0, γ i = .mem g o ∧ γ3 (j + q) = .mem g o ∧ bs[q]? = some bx' ∧ σ0.boxes[i]? = some b0 ∧ bx'.cs.length = b0.cs.length := by
  induction hL with
  | nil => intro zs bs j _ _ _ _ i hi; simp at hi
  | @cons m x u y hs gs ms xs us ys hs' gs' ha _ ih =>
    intro zs bs j hsh hbl hpin hln i hi
    have skip : ∀ {z : S} {zs1 : List S}, zs = z :: zs1 → Shown ms ys zs1 → bxOf m z u = [] → outs (m :: ms) (z :: zs1) bs = .one .unk :: outs ms zs1 bs → gs = [] →
        ∃ g o q bx' b0, γ i = .mem g o ∧ γ3 (j + q) = .mem g o ∧ bs[q]? = some bx' ∧ σ0.boxes[i]? = some b0 ∧ bx'.cs.length = b0.cs.length := fun {z zs1} e hsh1 hb ho hg => by
      subst e hg
      rw [ho] at hln
      exact ih hsh1 (by simpa [bxsOf, hb] using hbl) (by simpa [bxsOf, hb] using hpin) (lens_tail hln) i (by simpa using hi)
    have box : ∀ {z : S} {zs1 : List S} {bx : Bx} {b : Box} {bs1 : List Box} {o : S}, zs = z :: zs1 → bs = b :: bs1 → Shown ms ys zs1 → bxOf m z u = [bx] → outs (m :: ms) (z :: zs1) bs = o :: outs ms zs1 bs1 → i ∈ gs' →
        ∃ g o q bx' b0, γ i = .mem g o ∧ γ3 (j + q) = .mem g o ∧ bs[q]? = some bx' ∧ σ0.boxes[i]? = some b0 ∧ bx'.cs.length = b0.cs.length := fun {z zs1 bx b bs1 o} e e2 hsh1 hb ho hg => by
      subst e e2
      rw [ho] at hln
      simp only [bxsOf, hb, List.length_append, List.length_cons, List.length_nil] at hbl
      obtain ⟨g, o', q, bx', b0, h1, h2, h3, h4, h5⟩ := ih (j := j + 1) hsh1 (by omega) (fun i' x' hx' => by
        have := hpin (i' + 1) x' (by simp only [bxsOf, hb]; simpa using hx')
        rwa [show j + (i' + 1) = j + 1 + i' by omega] at this) (lens_tail hln) i hg
      exact ⟨g, o', q + 1, bx', b0, h1, by rwa [show j + (q + 1) = j + 1 + q by omega], by simpa using h3, h4, h5⟩
    cases ha with
    | ro _ _ hs =>
      cases hsh with
      | ro _ z hsh => exact skip rfl hsh rfl outs_ro rfl
      | other _ hm _ => exact absurd rfl hm
    | val _ _ d hm hd hr =>
      cases hsh with
      | ro => exact absurd rfl hm
      | @other _ _ _ zs1 _ _ hsh => exact skip rfl hsh (by rcases hd with ⟨x, rfl⟩ | ⟨b, rfl⟩ <;> cases m <;> rfl) (outs_val hd) rfl
    | own _ c _ d hm hc ho =>
      cases hsh with
      | ro => exact absurd rfl hm
      | @other _ _ _ zs1 _ _ hsh =>
        obtain ⟨nl, sz, es, rfl⟩ := own_slB ho
        cases bs with
        | nil => cases m <;> simp [bxsOf, bxOf] at hbl; exact absurd rfl hm
        | cons b bs =>
          cases m with
          | ro => exact absurd rfl hm
          | tk => exact box (bx := .val [u]) rfl rfl hsh rfl (by simp only [outs]; rfl) (by simpa using hi)
          | io => exact box (bx := .val [u]) rfl rfl hsh rfl (by simp only [outs]; rfl) (by simpa using hi)
    | agg _ cs us' ds hm h1 h2 h3 =>
      cases hsh with
      | ro => exact absurd rfl hm
      | @other _ _ _ zs1 _ _ hsh =>
        cases bs with
        | nil => cases m <;> simp [bxsOf, bxOf] at hbl; exact absurd rfl hm
        | cons b bs =>
          cases m with
          | ro => exact absurd rfl hm
          | tk => exact box (bx := .val us') rfl rfl hsh rfl (by simp only [outs]; rfl) (by simpa using hi)
          | io => exact box (bx := .val us') rfl rfl hsh rfl (by simp only [outs]; rfl) (by simpa using hi)
    | bx i' g o us' cs hb hgi hl hcell =>
      cases hsh with
      | @other _ _ _ zs1 _ _ hsh =>
        cases bs with
        | nil => simp [bxsOf, bxOf] at hbl
        | cons b bs =>
          rcases List.mem_append.1 hi with hi' | hi'
          · have hii : i = i' := by simpa using hi'
            subst hii
            obtain ⟨b0, hb0, rfl⟩ := hb
            have hg : γ3 j = .mem g o := by have := hpin 0 _ (by simp [bxsOf, bxOf]; rfl); simpa using this
            refine ⟨g, o, 0, b, b0, hgi, by simpa using hg, rfl, hb0, ?_⟩
            simp only [outs, lensOk, Bool.and_eq_true, beq_iff_eq] at hln
            exact hln.1.symm
          · exact box (bx := .mem g o) rfl rfl hsh rfl (by simp only [outs]; rfl) hi'
end
end Go.Proofs.Gh
