/- Type tables: a type's row made out of the program. -/
import Derived.Test.YtmpnmcnjhpekaaaGh40
import Derived.KernelRfl
set_option linter.unusedSimpArgs false
namespace Go.Proofs.Gh
open Go Go.RowKit

def fieldsOf (P : Program) : List Field → Option (List (Nat × Nat × Bool))
  | [] => some []
  | fd :: fs => match P.info? fd.type, P.underlying fd.type with
    | some ff, some d => if ff.size = 0 then none else (fieldsOf P fs).map fun l => (fd.offset, ff.size, aggDesc (some d)) :: l
    | _, _ => none
def kindOf (P : Program) (cks : List CK) : TypeDesc → Option TK
  | .int k => match cks with
    | [.int k'] => if k = k' then some .scalar else none
    | _ => none
  | .bool => match cks with
    | [.bool] => some .scalar
    | _ => none
  | .string => match cks with
    | [.str] => some .scalar
    | _ => none
  | .slice e => match cks with
    | [.sl n] => (P.info? e).bind fun f => if f.size = n then some (.slice e) else none
    | _ => none
  | .struct fs => (fieldsOf P fs.toList).map .struct
  | .array n e => some (.array n e)
  | .tuple _ => none
  | _ => match cks with
    | [.other] => some .scalar
    | _ => none
def flatFields (P : Program) : Nat → List Field → List CK → Bool
  | _, [], [] => true
  | k, f :: fs, ck :: cks => !(f.name == "_") && Nat.beq f.offset k && (match P.underlying f.type, ck with
    | some (.int _), .int _ => true
    | some .bool, .bool => true
    | some .string, .str => true
    | _, _ => false) && flatFields P (k + 1) fs cks
  | _, _, _ => false
/-- May values of this type be compared cell by cell? -/
def flatOf (P : Program) (t : TypeId) (cks : List CK) : TypeDesc → Bool
  | .struct fs => !P.stoodInHeld t && !P.eqGuardType P.depth t && flatFields P 0 fs.toList cks
  | _ => false
theorem flatFields_ok {P : Program} : ∀ {fs : List Field} {cks : List CK} {n : Nat}, flatFields P n fs cks = true → fs.length = cks.length ∧ ∀ (k : Nat) (fd : Field), fs[k]? = some fd → fd.name ≠ "_" ∧ fd.offset = n + k ∧ ∃ ck, cks[k]? = some ck ∧
    ((∃ ki ki', ck = .int ki' ∧ P.underlying fd.type = some (.int ki)) ∨ (ck = .bool ∧ P.underlying fd.type = some .bool) ∨ (ck = .str ∧ P.underlying fd.type = some .string))
  | [], [], n, _ => ⟨rfl, by simp⟩
  | f :: fs, ck :: cks, n, h => by
    simp only [flatFields, Bool.and_eq_true] at h
    obtain ⟨⟨⟨h1, h2⟩, h3⟩, h4⟩ := h
    obtain ⟨hl, hr⟩ := flatFields_ok h4
    refine ⟨by simp [hl], fun k fd hk => ?_⟩
    cases k with
    | zero =>
      simp only [List.getElem?_cons_zero, Option.some.injEq] at hk
      subst hk
      refine ⟨by simpa using h1, Nat.eq_of_beq_eq_true h2, ck, rfl, ?_⟩
      split at h3
      · rename_i ki ki' e; exact .inl ⟨ki, ki', rfl, e⟩
      · rename_i e; exact .inr (.inl ⟨rfl, e⟩)
      · rename_i e; exact .inr (.inr ⟨rfl, e⟩)
      · cases h3
    | succ k =>
      obtain ⟨e1, e2, ck', e3, e4⟩ := hr k fd (by simpa using hk)
      exact ⟨e1, by omega, ck', by simpa using e3, e4⟩
  | [], _ :: _, n, h => by simp [flatFields] at h
  | _ :: _, [], n, h => by simp [flatFields] at h
def mapzOf (P : Program) : TypeDesc → Option Value
  | .map k e => match P.underlying k with
    | some .string => (P.info? e).bind fun f => f.zero.bind fun z => if z.oneCell' then some z else none
    | _ => none
  | _ => none
theorem mapzOf_ok {P : Program} {t : TypeId} {d : TypeDesc} (hd : P.underlying t = some d) {z : Value} (h : mapzOf P d = some z) :
    z.oneCell' = true ∧ ∃ k e f, P.underlying t = some (.map k e) ∧ P.underlying k = some .string ∧ P.info? e = some f ∧ f.zero = some z := by
  unfold mapzOf at h
  split at h
  · rename_i k e
    split at h
    · rename_i hk
      simp only [Option.bind_eq_some_iff] at h
      obtain ⟨f, hf, z', hz, h⟩ := h
      split at h
      · rename_i h1
        cases h
        exact ⟨h1, k, e, f, hd, hk, hf, hz⟩
      · cases h
    · cases h
  · cases h
def tiOf (P : Program) (t : TypeId) (cks : List CK) : Option TI :=
  (P.underlying t).bind fun d => match d with
    | .tuple ts => some ⟨aggDesc (some (.tuple ts)), 0, cks, [], .tuple ts.toList, false, none⟩
    | d => (P.info? t).bind fun f => (f.zero).bind fun z => (kindOf P cks d).bind fun k =>
      if f.size = cks.length ∧ 0 < f.bytes ∧ z.cells.size = f.size ∧ z.cells.toList.all Value.oneCell' = true then
        some ⟨aggDesc (some d), f.bytes, cks, (cks.zip z.cells.toList).map fun x => zeroC x.1 x.2, k, flatOf P t cks d, mapzOf P d⟩ else none
theorem fieldsOf_ok {P : Program} : ∀ {fs : List Field} {ps : List (Nat × Nat × Bool)}, fieldsOf P fs = some ps → ps.length = fs.length ∧ ∀ (k : Nat) (q : Nat × Nat × Bool), ps[k]? = some q → ∃ fd ff, fs[k]? = some fd ∧ P.info? fd.type = some ff ∧ q = (fd.offset, ff.size, aggDesc (P.underlying fd.type)) ∧ ff.size ≠ 0 ∧ (P.underlying fd.type).isSome
  | [], ps, h => by simp [fieldsOf] at h; subst h; simp
  | fd :: fs, ps, h => by
    unfold fieldsOf at h
    split at h
    · rename_i ff d hf hd
      split at h
      · cases h
      · rename_i hz
        rw [Option.map_eq_some_iff] at h
        obtain ⟨l, hl, rfl⟩ := h
        obtain ⟨h1, h2⟩ := fieldsOf_ok hl
        refine ⟨by simp [h1], fun k q hq => ?_⟩
        cases k with
        | zero => simp at hq; subst hq; exact ⟨fd, ff, rfl, hf, by rw [hd], hz, by rw [hd]; rfl⟩
        | succ k => exact h2 k q (by simpa using hq)
    · cases h
theorem tiOf_ok {P : Program} {t : TypeId} {cks : List CK} {i : TI} (h : tiOf P t cks = some i) : TyOk P t i := by
  unfold tiOf at h
  rw [Option.bind_eq_some_iff] at h
  obtain ⟨d, hd, h⟩ := h
  by_cases ht : ∃ ts, d = .tuple ts
  · obtain ⟨ts, rfl⟩ := ht
    simp only [Option.some.injEq] at h
    subst h
    exact ⟨.inl ⟨_, rfl⟩, ⟨_, hd, rfl, rfl⟩, fun h => (by cases h), fun z h => (by cases h)⟩
  · have h' : ((P.info? t).bind fun f => (f.zero).bind fun z => (kindOf P cks d).bind fun k =>
      if f.size = cks.length ∧ 0 < f.bytes ∧ z.cells.size = f.size ∧ z.cells.toList.all Value.oneCell' = true then
        some (⟨aggDesc (some d), f.bytes, cks, (cks.zip z.cells.toList).map fun x => zeroC x.1 x.2, k, flatOf P t cks d, mapzOf P d⟩ : TI) else none) = some i := by
      cases d with
      | tuple ts => exact absurd ⟨ts, rfl⟩ ht
      | _ => exact h
    clear h
    simp only [Option.bind_eq_some_iff] at h'
    obtain ⟨f, hf, z, hz, k, hk, h'⟩ := h'
    split at h'
    · rename_i hc
      obtain ⟨h1, h2, h3, h4⟩ := hc
      cases h'
      refine ⟨.inr ⟨f, z, hf, h1, rfl, h2, hz, h3, h4, rfl⟩, ⟨d, hd, rfl, ?_⟩, fun hfl => by
        cases d with
        | struct fs =>
          simp only [flatOf, Bool.and_eq_true, Bool.not_eq_true'] at hfl
          obtain ⟨hl, hr⟩ := flatFields_ok hfl.2
          exact ⟨hfl.1.1, hfl.1.2, fs, hd, by simpa using hl, fun k fd hk => by
            obtain ⟨e1, e2, e3⟩ := hr k fd (by simpa using hk)
            exact ⟨e1, by omega, e3⟩⟩
        | _ => simp [flatOf] at hfl, fun z hz => mapzOf_ok hd hz⟩
      unfold kindOf at hk
      cases d with
      | int k0 =>
        simp only at hk
        split at hk
        · split at hk
          · rename_i e; subst e; cases hk; exact ⟨rfl, rfl⟩
          · cases hk
        · cases hk
      | bool => simp only at hk; split at hk <;> cases hk; exact ⟨rfl, rfl⟩
      | string => simp only at hk; split at hk <;> cases hk; exact ⟨rfl, rfl⟩
      | slice e =>
        simp only at hk
        split at hk
        · rw [Option.bind_eq_some_iff] at hk
          obtain ⟨fe, hfe, hk⟩ := hk
          split at hk
          · rename_i e; cases hk; exact ⟨rfl, _, fe, rfl, hfe, e⟩
          · cases hk
        · cases hk
      | struct fs =>
        simp only [Option.map_eq_some_iff] at hk
        obtain ⟨ps, hps, rfl⟩ := hk
        obtain ⟨h1, h2⟩ := fieldsOf_ok hps
        exact ⟨ps, rfl, by simpa using h1, fun k q hq => by
          obtain ⟨fd, ff, e1, e2⟩ := h2 k q hq
          exact ⟨fd, ff, by simpa using e1, e2⟩⟩
      | array n e => cases hk; rfl
      | tuple ts => exact absurd ⟨ts, rfl⟩ ht
      | _ => simp only at hk; split at hk <;> cases hk; exact ⟨rfl, rfl⟩
    · cases h'
/-- A table. -/
def look {α : Type} (l : List (Nat × α)) (t : Nat) : Option α :=
  match l with
  | [] => none
  | (s, i) :: l => bif Nat.beq s t then some i else look l t
theorem look_mem {α : Type} {t : Nat} {i : α} : ∀ {l : List (Nat × α)}, look l t = some i → (t, i) ∈ l
  | [], h => by simp [look] at h
  | (s, j) :: l, h => by
    unfold look at h
    cases hb : Nat.beq s t with
    | true =>
      rw [hb] at h
      simp only [cond_true, Option.some.injEq] at h
      have := Nat.eq_of_beq_eq_true hb
      subst this; subst h; simp
    | false => rw [hb] at h; exact List.mem_cons_of_mem _ (look_mem (by simpa using h))
theorem envTy_of {P : Program} {E : Env} {l : List (Nat × TI)} (he : E.ty = look l) (h : l.map (fun x => tiOf P x.1 x.2.cks) = l.map fun x => some x.2) : EnvTy P E := by
  intro t i hi
  rw [he] at hi
  have hm := look_mem hi
  obtain ⟨j, hj⟩ := List.getElem?_of_mem hm
  have h1 : (l.map fun x => tiOf P x.1 x.2.cks)[j]? = some (tiOf P t i.cks) := by rw [List.getElem?_map, hj]; rfl
  rw [h, List.getElem?_map, hj] at h1
  simp only [Option.map_some, Option.some.injEq] at h1
  exact tiOf_ok h1.symm
end Go.Proofs.Gh
