/- What was lent comes back. -/
import Derived.Test.YtmpnmcnjhpekaaaGh32
set_option linter.unusedSimpArgs false
namespace Go.Proofs.Gh
open Go.RowKit
section
variable {P : Program} {E : Env} {B : Base} {γ γ3 : Nat → Bx} {st st' : Nat → Prop} {ow : Nat → Option Ow} {hand : List (Value × C)} {σ σ0 σ1 : St} {w w' : World} {r : Res} {tmps : Array Value}

/-- What comes back of the callee's first boxes. -/
def backs (val : Nat → Nat → List Value) : List Mode → List S → List Box → Nat → List (List (Value × C))
  | .io :: ms, .one (.sl true _ _ _) :: zs, b :: bs, j => ((val j b.cs.length).zip b.cs).take 1 :: backs val ms zs bs (j + 1)
  | .io :: ms, .one (.bx _) :: zs, b :: bs, j => (val j b.cs.length).zip b.cs :: backs val ms zs bs (j + 1)
  | .io :: ms, .agg _ :: zs, b :: bs, j => (val j b.cs.length).zip b.cs :: backs val ms zs bs (j + 1)
  | .tk :: ms, .one (.sl true _ _ _) :: zs, _ :: bs, j => [] :: backs val ms zs bs (j + 1)
  | .tk :: ms, .agg _ :: zs, _ :: bs, j => [] :: backs val ms zs bs (j + 1)
  | _ :: ms, _ :: zs, bs, j => backs val ms zs bs j
  | _, _, _, _ => []
def valsOf (γ : Nat → Bx) (w : World) (j n : Nat) : List Value := (List.range n).map fun k => (cellV γ w j k).getD undef
theorem valsOf_get {j n k : Nat} {u v : Value} (h : (valsOf γ w j n)[k]? = some u) (hv : cellV γ w j k = some v) : u = v := by
  unfold valsOf at h
  rw [List.getElem?_map] at h
  by_cases hk : k < n
  · rw [List.getElem?_range hk] at h
    simp [hv] at h; exact h.symm
  · rw [List.getElem?_eq_none (by simpa using hk)] at h; cases h
theorem valsOf_len (j n : Nat) : (valsOf γ w j n).length = n := by simp [valsOf]
/-- A cell comes back. -/
theorem importCell_ok {bxs : List Nat} {u : Value} {x d out : C} {k : St → Option Res} (R : Rel B γ st ow (hand ++ [(u, out)]) σ tmps w') (hL : LentC γ w bxs u x d) (hplace : ∀ p d, σ1.nodeC p = some d → p.r ∉ bxs → placeV γ w' p = placeV γ w p)
    (h : importCellK σ1 σ x out k = some r) : ∃ σ' ow', k σ' = some r ∧ Rel B γ st ow' hand σ' tmps w' := by
  cases hL with
  | al p _ nl sz es hp hv =>
    unfold importCellK at h
    simp only at h
    split at h
    · rename_i nl' sz' es'
      rw [nodeK_eq, Option.bind_eq_some_iff] at h
      obtain ⟨d1, hd1, h⟩ := h
      rw [nodeK_eq, Option.bind_eq_some_iff] at h
      obtain ⟨d2, hd2, h⟩ := h
      obtain ⟨ow', R'⟩ := R.putBack hd2 ((hplace p d1 hd1 hp).trans hv)
      exact ⟨_, ow', h, R'⟩
    · cases h
  | same _ _ hna =>
    have : importCellK σ1 σ x out k = k σ := by
      unfold importCellK
      cases x with
      | al p => exact absurd rfl (hna p)
      | _ => rfl
    rw [this] at h
    obtain ⟨ow', R'⟩ := R.drop
    exact ⟨σ, ow', h, R'⟩
theorem importCells_ok {bxs : List Nat} (hplace : ∀ p d, σ1.nodeC p = some d → p.r ∉ bxs → placeV γ w' p = placeV γ w p) : ∀ (xs : List C) (us : List Value) (ds os : List C) {ow : Nat → Option Ow} {σ : St} {k : St → Option Res}, Rel B γ st ow (hand ++ us.zip os) σ tmps w' → us.length = xs.length → us.length = ds.length →
    (∀ (i : Nat) (u : Value) (c d : C), us[i]? = some u → xs[i]? = some c → ds[i]? = some d → LentC γ w bxs u c d) → importCellsK σ1 σ xs os k = some r → ∃ σ' ow', k σ' = some r ∧ Rel B γ st ow' hand σ' tmps w'
  | [], us, ds, os, ow, σ, k, R, hl, hl2, hL, h => by
    obtain ⟨ow', R'⟩ := R.drops
    exact ⟨σ, ow', h, R'⟩
  | x :: xs, us, ds, os, ow, σ, k, R, hl, hl2, hL, h => by
    unfold importCellsK at h
    rw [Option.bind_eq_some_iff] at h
    obtain ⟨o, ho, h⟩ := h
    match us, ds, os, ho, hl, hl2 with
    | u :: us, d :: ds, o' :: os, ho, hl, hl2 =>
      simp only [List.head?_cons, Option.some.injEq] at ho
      subst ho
      obtain ⟨ow1, R1⟩ := Rel.rot (hand := hand) (A := [(u, o')]) (D := us.zip os) (by simpa using R)
      obtain ⟨σ2, ow2, h2, R2⟩ := importCell_ok R1 (hL 0 u x d rfl rfl rfl) hplace h
      exact importCells_ok hplace xs us ds os R2 (by simpa using hl) (by simpa using hl2) (fun i u c d hu hc hd => hL (i + 1) u c d (by simpa using hu) (by simpa using hc) (by simpa using hd)) h2
theorem outs_ro {ms : List Mode} {z : S} {zs : List S} {bs : List Box} : outs (.ro :: ms) (z :: zs) bs = .one .unk :: outs ms zs bs := by
  cases z <;> cases bs <;> simp [outs]
theorem backs_ro {val : Nat → Nat → List Value} {ms : List Mode} {z : S} {zs : List S} {bs : List Box} {j : Nat} : backs val (.ro :: ms) (z :: zs) bs j = backs val ms zs bs j := by
  cases z <;> cases bs <;> simp [backs]
theorem outs_val {m : Mode} {d : C} {ms : List Mode} {zs : List S} {bs : List Box} (hd : (∃ x, d = .v x) ∨ (∃ b, d = .ifc b)) : outs (m :: ms) (.one d :: zs) bs = .one .unk :: outs ms zs bs := by
  rcases hd with ⟨x, rfl⟩ | ⟨b, rfl⟩ <;> cases m <;> cases bs <;> simp [outs]
theorem backs_val {val : Nat → Nat → List Value} {m : Mode} {d : C} {ms : List Mode} {zs : List S} {bs : List Box} {j : Nat} (hd : (∃ x, d = .v x) ∨ (∃ b, d = .ifc b)) : backs val (m :: ms) (.one d :: zs) bs j = backs val ms zs bs j := by
  rcases hd with ⟨x, rfl⟩ | ⟨b, rfl⟩ <;> cases m <;> cases bs <;> simp [backs]
theorem imports_ok {bxs : List Nat} {ms : List Mode} {xs : List S} {us : List Value} {ys : List S} {H : List (Value × C)} {gs : List Nat} (hL : LentAll σ0 st γ w bxs ms xs us ys H gs) (hplace : ∀ p d, σ1.nodeC p = some d → p.r ∉ bxs → placeV γ w' p = placeV γ w p) :
    ∀ {zs : List S} {bs : List Box} {j : Nat} {ow : Nat → Option Ow} {σ : St} {k : St → Option Res}, Shown ms ys zs → (bxsOf ms zs us).length ≤ bs.length → (∀ (i : Nat) (x : Bx), (bxsOf ms zs us)[i]? = some x → γ3 (j + i) = x) →
      (∀ (i q : Nat) (b : Box) (c : C), bs[i]? = some b → b.cs[q]? = some c → ∃ u, cellV γ3 w' (j + i) q = some u) →
      Rel B γ st ow (hand ++ (backs (valsOf γ3 w') ms zs bs j).flatten) σ tmps w' → importsK σ1 σ ms xs (outs ms zs bs) k = some r → ∃ σ' ow', k σ' = some r ∧ Rel B γ st ow' hand σ' tmps w' := by
  induction hL with
  | nil =>
    intro zs bs j ow σ k hsh hbl hpin hcv R h
    cases hsh
    exact ⟨σ, ow, h, by simpa [backs] using R⟩
  | @cons m x u y hs gs ms xs us ys hs' gs' ha _ ih =>
    intro zs bs j ow σ k hsh hbl hpin hcv R h
    -- a box more
    have step : ∀ {zs : List S} {bx : Bx} {b : Box} {bs : List Box} {L0 : List (Value × C)} {ow : Nat → Option Ow} {σ : St}, Shown ms ys zs → (bxsOf ms zs us).length ≤ bs.length →
        (∀ (i : Nat) (x : Bx), ([bx] ++ bxsOf ms zs us)[i]? = some x → γ3 (j + i) = x) → (∀ (i q : Nat) (b' : Box) (c : C), (b :: bs)[i]? = some b' → b'.cs[q]? = some c → ∃ u, cellV γ3 w' (j + i) q = some u) →
        Rel B γ st ow (hand ++ (backs (valsOf γ3 w') ms zs bs (j + 1)).flatten) σ tmps w' → importsK σ1 σ ms xs (outs ms zs bs) k = some r → ∃ σ' ow', k σ' = some r ∧ Rel B γ st ow' hand σ' tmps w' := fun {zs bx b bs L0 ow σ} hsh hbl hpin hcv R h =>
      ih hsh hbl (fun i x hx => by have := hpin (i + 1) x (by simpa using hx); rwa [show j + (i + 1) = j + 1 + i by omega] at this)
        (fun i q b' c hb hc => by have := hcv (i + 1) q b' c (by simpa using hb) hc; rwa [show j + (i + 1) = j + 1 + i by omega] at this) R h
    cases ha with
    | ro _ _ hs =>
      cases hsh with
      | ro _ z hsh =>
        rw [outs_ro] at h
        rw [backs_ro] at R
        exact ih hsh (by simpa [bxsOf, bxOf] using hbl) (by simpa [bxsOf, bxOf] using hpin) hcv R h
      | other _ hm _ => exact absurd rfl hm
    | val _ _ d hm hd hr =>
      cases hsh with
      | ro => exact absurd rfl hm
      | @other _ _ _ zs1 _ _ hsh =>
        have hbx : ∀ zs', bxsOf (m :: ms) (.one d :: zs') (u :: us) = bxsOf ms zs' us := fun zs' => by
          rcases hd with ⟨x, rfl⟩ | ⟨b, rfl⟩ <;> cases m <;> rfl
        rw [hbx] at hbl hpin
        rw [outs_val hd] at h
        rw [backs_val hd] at R
        cases m with
        | ro => exact absurd rfl hm
        | io =>
          simp only [importsK, List.head?_cons, Option.bind_some] at h
          rcases hd with ⟨x, rfl⟩ | ⟨b, rfl⟩ <;> simp [importK] at h
        | tk => exact ih hsh hbl hpin hcv R h
    | own _ c _ d hm hc ho =>
      cases hsh with
      | ro => exact absurd rfl hm
      | @other _ _ _ zs1 _ _ hsh =>
        obtain ⟨nl, sz, es, rfl⟩ := own_slB ho
        match bs, hbl, hcv, R, h with
        | [], hbl, _, _, _ => cases m <;> simp [bxsOf, bxOf] at hbl; exact absurd rfl hm
        | b :: bs, hbl, hcv, R, h =>
          cases m with
          | ro => exact absurd rfl hm
          | tk =>
            have hbl' : (bxsOf ms zs1 us).length ≤ bs.length := by simp only [bxsOf, bxOf, List.length_append, List.length_cons, List.length_nil] at hbl; omega
            exact step (L0 := []) hsh hbl' hpin hcv (by simpa [backs] using R) (by simpa [outs, importsK] using h)
          | io =>
            have hbl' : (bxsOf ms zs1 us).length ≤ bs.length := by simp only [bxsOf, bxOf, List.length_append, List.length_cons, List.length_nil] at hbl; omega
            have hg : γ3 j = .val [u] := by have := hpin 0 _ (by simp [bxsOf, bxOf]; rfl); simpa using this
            simp only [outs, importsK, List.head?_cons, Option.bind_some, List.tail_cons] at h
            simp only [backs, List.flatten_cons] at R
            obtain ⟨ow1, R1⟩ := Rel.rot (hand := hand) (A := ((valsOf γ3 w' j b.cs.length).zip b.cs).take 1) (by rw [List.append_assoc]; exact R)
            have hL0 : ((valsOf γ3 w' j b.cs.length).zip b.cs).take 1 = [] ∧ b.cs.headD .unk = .unk ∨ ((valsOf γ3 w' j b.cs.length).zip b.cs).take 1 = [(u, b.cs.headD .unk)] := by
              cases hb : b.cs with
              | nil => left; simp
              | cons c0 cs =>
                right
                obtain ⟨v, hv⟩ := hcv 0 0 b c0 rfl (by rw [hb]; rfl)
                have hvu : v = u := by
                  simp only [cellV, Nat.add_zero, hg] at hv
                  simpa using hv.symm
                subst hvu
                simp [valsOf, List.range_succ_eq_map, cellV, hg]
            cases hc with
            | al p _ _ _ _ hp hv =>
              simp only [importK] at h
              rcases hL0 with ⟨_, e⟩ | e
              · rw [e] at h; simp [importCellK] at h
              · rw [e] at R1
                obtain ⟨σ2, ow2, h2, R2⟩ := importCell_ok (d := .sl true nl sz es) R1 (.al p u nl sz es hp hv) hplace h
                exact step (L0 := []) hsh hbl' hpin hcv R2 h2
            | same _ _ _ =>
              simp only [importK] at h
              obtain ⟨ow2, R2⟩ := R1.drops
              exact step (L0 := []) hsh hbl' hpin hcv R2 h
    | agg _ cs us' ds hm h1 h2 h3 =>
      cases hsh with
      | ro => exact absurd rfl hm
      | @other _ _ _ zs1 _ _ hsh =>
        match bs, hbl, hcv, R, h with
        | [], hbl, _, _, _ => cases m <;> simp [bxsOf, bxOf] at hbl; exact absurd rfl hm
        | b :: bs, hbl, hcv, R, h =>
          cases m with
          | ro => exact absurd rfl hm
          | tk =>
            have hbl' : (bxsOf ms zs1 us).length ≤ bs.length := by simp only [bxsOf, bxOf, List.length_append, List.length_cons, List.length_nil] at hbl; omega
            exact step (L0 := []) hsh hbl' hpin hcv (by simpa [backs] using R) (by simpa [outs, importsK] using h)
          | io =>
            have hbl' : (bxsOf ms zs1 us).length ≤ bs.length := by simp only [bxsOf, bxOf, List.length_append, List.length_cons, List.length_nil] at hbl; omega
            have hg : γ3 j = .val us' := by have := hpin 0 _ (by simp [bxsOf, bxOf]; rfl); simpa using this
            simp only [outs, importsK, List.head?_cons, Option.bind_some, List.tail_cons] at h
            simp only [backs, List.flatten_cons] at R
            obtain ⟨ow1, R1⟩ := Rel.rot (hand := hand) (A := (valsOf γ3 w' j b.cs.length).zip b.cs) (by rw [List.append_assoc]; exact R)
            have hz : (valsOf γ3 w' j b.cs.length).zip b.cs = us'.zip b.cs := by
              apply List.ext_getElem?
              intro q
              cases hq : b.cs[q]? with
              | none =>
                have hle : b.cs.length ≤ q := by simpa using hq
                rw [List.getElem?_eq_none (by simp; omega), List.getElem?_eq_none (by simp; omega)]
              | some c0 =>
                obtain ⟨v, hv⟩ := hcv 0 q b c0 rfl hq
                have hlt : q < b.cs.length := (List.getElem?_eq_some_iff.1 hq).1
                have hv1 : (valsOf γ3 w' j b.cs.length)[q]? = some v := by
                  have hlt' : q < (valsOf γ3 w' j b.cs.length).length := by rw [valsOf_len]; exact hlt
                  rw [List.getElem?_eq_getElem hlt']
                  rw [valsOf_get (List.getElem?_eq_getElem hlt') (by simpa using hv)]
                have hv2 : us'[q]? = some v := by simpa [cellV, hg] using hv
                have e1 : ((valsOf γ3 w' j b.cs.length).zip b.cs)[q]? = some (v, c0) := by rw [List.getElem?_zip_eq_some]; exact ⟨hv1, hq⟩
                have e2 : (us'.zip b.cs)[q]? = some (v, c0) := by rw [List.getElem?_zip_eq_some]; exact ⟨hv2, hq⟩
                rw [e1, e2]
            rw [hz] at R1
            simp only [importK] at h
            obtain ⟨σ2, ow2, h4, R2⟩ := importCells_ok hplace cs us' ds b.cs R1 h1 h2 h3 h
            exact step (L0 := []) hsh hbl' hpin hcv R2 h4
    | bx i g o us' cs hb hgi hl hcell =>
      cases hsh with
      | @other _ _ _ zs1 _ _ hsh =>
        match bs, hbl, hcv, R, h with
        | [], hbl, _, _, _ => simp [bxsOf, bxOf] at hbl
        | b :: bs, hbl, hcv, R, h =>
          have hbl' : (bxsOf ms zs1 us).length ≤ bs.length := by simp only [bxsOf, bxOf, List.length_append, List.length_cons, List.length_nil] at hbl; omega
          have hg : γ3 j = .mem g o := by have := hpin 0 _ (by simp [bxsOf, bxOf]; rfl); simpa using this
          simp only [outs, importsK, List.head?_cons, Option.bind_some, List.tail_cons] at h
          simp only [backs, List.flatten_cons] at R
          obtain ⟨ow1, R1⟩ := Rel.rot (hand := hand) (A := (valsOf γ3 w' j b.cs.length).zip b.cs) (by rw [List.append_assoc]; exact R)
          simp only [importK] at h
          rw [Option.bind_eq_some_iff] at h
          obtain ⟨b0, hb0, h⟩ := h
          split at h
          · rename_i hlen
            obtain ⟨ow2, R2⟩ := R1.fillBox (i := i) hb0 (by simp [valsOf_len]; omega) (fun q x hx => by
              rw [List.getElem?_zip_eq_some] at hx
              obtain ⟨v, hv⟩ := hcv 0 q b x.2 rfl hx.2
              have hv' : cellV γ3 w' j q = some v := by simpa using hv
              rw [valsOf_get hx.1 hv']
              simpa [cellV, hg, hgi] using hv')
            rw [show ((valsOf γ3 w' j b.cs.length).zip b.cs).map Prod.snd = b.cs from zip_snd _ _ (valsOf_len _ _)] at R2
            exact step (L0 := []) hsh hbl' hpin hcv R2 h
          · cases h
end
end Go.Proofs.Gh
