/- Contracts of the library's functions, taken over: a call that leaves memory below as it was and gives something new. -/
import Derived.Test.YtmpnmcnjhpekaaaGh44
import Derived.Shelf.SlicesE.Clone
namespace Go.Proofs.Gh
open Go.RowKit Go.Shelf Go.Lib
variable {P : Program}

open Classical in
/-- A function that only reads what it is handed, and gives what is new or stays. -/
theorem fresh_tab_ok {f : FuncId} {sp : Spec} (hro : sp.modes.all Mode.isRo = true)
    (h : ∀ (st : Nat → Prop) (γ : Nat → Bx) (w : World) (us : List Value) (xs : List S) (r : Res), us.length = xs.length → sp.modes.length = xs.length →
      (∀ (i : Nat) (u : Value) (s : S), us[i]? = some u → xs[i]? = some s → SlotOk ⟨xs, []⟩ st γ w u s) → (∀ b, st b → b < w.heap.size) → (∀ x ∈ GLOBS, ∃ t fr, w.heap[x.1]? = some (.cells x.2.toArray t fr)) → sp.run xs = some r →
      Calls P f us.toArray w fun e w' => ∃ v hand, ∃ X : Nat → Nat → Prop, e = .returned v ∧ ResultIs v r.1 hand ∧ Below w.heap.size w w' ∧
        (∀ (i : Nat) (x : Value × C), hand[i]? = some x → Rep st γ w' 0 x.1 x.2 (X i)) ∧ (∀ i b, X i b → w.heap.size ≤ b ∧ b < w'.heap.size) ∧ (∀ i j b, X i b → X j b → i = j) ∧
        r.2 = outs sp.modes xs [] ∧ (∀ x ∈ hand, x.2.leaves sp.keeps = true) ∧ (∀ s ∈ r.2, s.leaves sp.keeps = true) ∧ lensOk xs r.2 = true) : SpecOk P f sp := by
  intro B γ ow us xs r R hm hr
  rw [enter_ro sp.modes xs [] hro hm] at R
  have hl : us.length = xs.length := by simpa using R.size
  refine (h B.st γ B.w us xs r hl hm (fun i u s hu hs => R.slots i s u hs (by simpa using hu)) (fun b hb => (R.stlt b hb).1) (fun x hx => (R.tab x hx).1) hr).mono fun e w' hp => ?_
  obtain ⟨v, hand, X, rfl, hres, hbel, hreps, hX, hX1, ho, hlv, hls, hlen⟩ := hp
  refine ⟨v, hand, γ, fun b => if hb : ∃ i, X i b then some (.hand hb.choose) else none, [], rfl, .inl hres, ?_, ho, hlv, hls, hlen⟩
  have hiff : ∀ i b, (if hb : ∃ i, X i b then some (Ow.hand hb.choose) else none) = some (Ow.hand i) ↔ X i b := by
    intro i b
    constructor
    · intro e
      split at e
      · rename_i hb
        simp only [Option.some.injEq, Ow.hand.injEq] at e
        have := hb.choose_spec
        rwa [e] at this
      · cases e
    · intro hx
      have hb : ∃ i, X i b := ⟨i, hx⟩
      rw [dif_pos hb, hX1 _ i b hb.choose_spec hx]
  have hany : ∀ b x, (if hb : ∃ i, X i b then some (Ow.hand hb.choose) else none) = some x → ∃ i, X i b := by
    intro b x e
    split at e
    · assumption
    · cases e
  constructor
  · exact R.tab
  · rfl
  · intro t s u hs; simp at hs
  · intro r k c hc; simp [St.root] at hc
  · intro r b g o hb; simp at hb
  · intro r b hb; simp at hb
  · intro i x hx
    exact (hreps i x hx).mono fun b hb => (hiff i b).2 hb
  · intro b x hb
    obtain ⟨i, hi⟩ := hany b x hb
    exact (hX i b hi).2
  · intro b hb
    have hlt := (R.stlt b hb).1
    refine ⟨Nat.lt_of_lt_of_le hlt hbel.size, ?_⟩
    rw [dif_neg]
    rintro ⟨i, hi⟩
    exact absurd (hX i b hi).1 (by omega)
  · exact ⟨hbel.os, hbel.tape, hbel.output, hbel.size, fun b hb _ => hbel.block b hb, fun b o hb _ => ⟨hbel.cell hb, hbel.frozen hb⟩⟩
  · intro b x hb hlt
    obtain ⟨i, hi⟩ := hany b x hb
    exact absurd (hX i b hi).1 (by omega)
  · intro r x hx
    have := (R.pin r x hx).1
    simp at this

/-- .. that reads no package variables. -/
theorem fresh_ok {f : FuncId} {sp : Spec} (hro : sp.modes.all Mode.isRo = true)
    (h : ∀ (st : Nat → Prop) (γ : Nat → Bx) (w : World) (us : List Value) (xs : List S) (r : Res), us.length = xs.length → sp.modes.length = xs.length →
      (∀ (i : Nat) (u : Value) (s : S), us[i]? = some u → xs[i]? = some s → SlotOk ⟨xs, []⟩ st γ w u s) → (∀ b, st b → b < w.heap.size) → sp.run xs = some r →
      Calls P f us.toArray w fun e w' => ∃ v hand, ∃ X : Nat → Nat → Prop, e = .returned v ∧ ResultIs v r.1 hand ∧ Below w.heap.size w w' ∧
        (∀ (i : Nat) (x : Value × C), hand[i]? = some x → Rep st γ w' 0 x.1 x.2 (X i)) ∧ (∀ i b, X i b → w.heap.size ≤ b ∧ b < w'.heap.size) ∧ (∀ i j b, X i b → X j b → i = j) ∧
        r.2 = outs sp.modes xs [] ∧ (∀ x ∈ hand, x.2.leaves sp.keeps = true) ∧ (∀ s ∈ r.2, s.leaves sp.keeps = true) ∧ lensOk xs r.2 = true) : SpecOk P f sp :=
  fresh_tab_ok hro fun st γ w us xs r h1 h2 h3 h4 _ h5 => h st γ w us xs r h1 h2 h3 h4 h5

/-! ### slices.Clone -/
variable {ρ : Ren}
set_option maxHeartbeats 2000000 in
set_option maxRecDepth 100000 in
/-- At whatever address. -/
theorem clone_call (L : SlLaysE0.n41 P ρ) (i0 : TypeInfo) (z : Value) (size bytes : Nat) (hi : P.info? (ρ.t 23) = some i0) (hz0 : i0.zero = some z) (hz1 : i0.size = size) (hz2 : i0.bytes = bytes) (hzs : z.cells.size = size) (hsz : 0 < size)
    (z23 : ∀ w, (Go.sizeOf (ρ.t 23)).run P w = .ok size w) (a : Addr) (n c : Nat) (news : List Value) (w : World) (hl : news.length = n * size) (hn : n ≤ maxLen) (hbig : n * bytes ≤ 140737488355328)
    (hc : ∀ j u, news[j]? = some u → w.cell? (a.add j) = some u) (h1 : ∀ u ∈ news, u.oneCell' = true) :
    Calls P (ρ.f 41) #[.slice (some a) n c] w fun e w' => ∃ v', e = .returned v' ∧ w'.ownsRow w.heap.size (ρ.t 23) size v' n news ∧ v' ≠ .slice none 0 0 ∧ Below w.heap.size w w' := by
  have mixed := L.mixed; have t4 := L.t4; have a4 := L.a4; have z4 := L.z4; have v4 := L.v4; have t22 := L.t22; have a22 := L.a22; have z22 := L.z22; have v22 := L.v22
  have q22 : ∀ (w : World) (a : Option Addr) (n c n' c' : Nat), (binOp .eql (ρ.t 22) (.slice a n c) (.slice none n' c')).run P w = .ok (.bool a.isNone) w := fun w a n c n' c' => Lib.run_eql_slice_nil w _ _ a n c n' c' L.t22
  have u22 : ∀ w, Sem.run P (underlying (ρ.t 22)) w = .ok (TypeDesc.slice (ρ.t 23)) w := run_underlying t22
  have A : Aside (∀ j u, news[j]? = some u → w.cell? (a.add j) = some u) := hc
  clear hc
  obtain ⟨_, _, FG⟩ := L.f41
  go_enter FG, SlBodyN.n41_ntmps ρ
  go_wp2_with (at_builtin; refine wpList_append_own _ rfl _ _ (ρ.t 22) rfl w.heap.size (ρ.t 23) i0 z size bytes t22 hi hz0 hz1 hz2 hzs hsz _ _ _ rfl (World.ownsRow_made w #[] 0 (Nat.le_refl _) (Nat.zero_le _) (by simp)) a n c news rfl ?qc1 ?qc2 ?qc3 ?qc4 ?qc5 ?qc6 ?_)
  case qc1 => exact hl
  case qc2 =>
    intro j u hj
    exact Lib.cell?_alloc_some _ (A.out j u hj)
  case qc3 => exact h1
  case qc4 => rw [Nat.zero_add]; exact hn
  case qc5 => rw [Nat.zero_add]; exact hbig
  case qc6 => simp
  intro v' w1 hown hgrow hnil
  go_wp2
  go_ret
  refine ⟨v', rfl, by simpa using hown, ?_, ?_⟩
  · exact hnil
  · exact ((Below.refl _ w).alloc (Nat.le_refl _) _).grown hgrow (by simp) (by intro k hk; simp [Value.ownBlock] at hk; omega)

/-- Rows of plain values. -/
def PlainRows (sz : Nat) (es : List (List C)) : Prop := ∀ row ∈ es, row.length = sz ∧ ∀ c ∈ row, ∃ x : Value, c = .v x
noncomputable abbrev cloneRun (sz bytes : Nat) : List S → Option Res :=
  told (A := Option Bool × List (List C)) (fun a => [.one (.sl false a.1 sz a.2)]) (fun a => PlainRows sz a.2 ∧ a.2.length * bytes ≤ 140737488355328) (fun a => (.one (.sl true a.1 sz a.2), [.one .unk]))
noncomputable def cloneSpec (sz bytes : Nat) : Spec := ⟨[.ro], false, cloneRun sz bytes⟩
theorem clone_at {sz bytes : Nat} {nl : Option Bool} {es : List (List C)} (h : PlainRows sz es) (hb : es.length * bytes ≤ 140737488355328) :
    cloneRun sz bytes [.one (.sl false nl sz es)] = some (.one (.sl true nl sz es), [.one .unk]) :=
  told_at (A := Option Bool × List (List C)) (enc := fun a => [.one (.sl false a.1 sz a.2)]) (a := (nl, es)) (fun a b h => by
    obtain ⟨a1, a2⟩ := a; obtain ⟨b1, b2⟩ := b
    simp at h; obtain ⟨rfl, rfl⟩ := h; rfl) ⟨h, hb⟩
theorem rowFree_plain : ∀ {cs : List C}, (∀ c ∈ cs, ∃ x : Value, c = .v x) → rowFree cs = true
  | [], _ => rfl
  | c :: cs, h => by
    obtain ⟨x, rfl⟩ := h c (by simp)
    simp only [rowFree, C.free, Bool.true_and]
    exact rowFree_plain fun c hc => h c (by simp [hc])
theorem rowsFree_plain {sz : Nat} : ∀ {es : List (List C)}, PlainRows sz es → rowsFree es = true
  | [], _ => rfl
  | row :: es, h => by
    simp only [rowsFree, rowFree_plain (h row (by simp)).2, Bool.true_and]
    exact rowsFree_plain fun r hr => h r (by simp [hr])
theorem clone_ok (L : SlLaysE0.n41 P ρ) (i0 : TypeInfo) (z : Value) (size bytes : Nat) (hi : P.info? (ρ.t 23) = some i0) (hz0 : i0.zero = some z) (hz1 : i0.size = size) (hz2 : i0.bytes = bytes) (hzs : z.cells.size = size) (hsz : 0 < size)
    (z23 : ∀ w, (Go.sizeOf (ρ.t 23)).run P w = .ok size w) : SpecOk P (ρ.f 41) (cloneSpec size bytes) := by
  refine fresh_ok rfl fun st γ w us xs r hl hm hs hst hr => ?_
  obtain ⟨⟨nl, es⟩, ⟨hp, hb⟩, rfl, rfl⟩ := told_some (show cloneRun size bytes xs = some r from hr)
  obtain ⟨u, rfl⟩ : ∃ u, us = [u] := by
    match us, hl with
    | [u], _ => exact ⟨u, rfl⟩
  have hlv : C.leaves false (.sl true nl size es) = true := by
    simp [C.leaves, C.nested, C.free, rowsFree_plain hp]
  have hc := slot_one (hs 0 u _ rfl rfl)
  cases hc with
  | rep _ _ h =>
    cases h with
    | nil n o nl sz X hnl =>
      refine (AnyE.slices_Clone_nil L 0 0 w).mono fun e w' ⟨he, hw⟩ => ?_
      subst he hw
      exact ⟨_, _, fun _ _ => False, rfl, .one (.one _ _), Below.refl _ _, fun i x hx => by
        match i, hx with
        | 0, hx => simp at hx; subst hx; exact .nil _ _ _ _ _ hnl, fun i b hx => hx.elim, fun i j b hx => hx.elim, rfl, by simpa [cloneSpec] using hlv, by simp [S.leaves, C.leaves, C.nested, C.free], rfl⟩
    | ro n a cap sz nl es vs X hnl hst' hcap hmax hrow hcell hrep =>
      have hnews : ∀ (j : Nat) (u : Value), ((List.range (es.length * size)).map fun k => vs (k / size) (k % size))[j]? = some u → w.cell? (a.add j) = some u ∧ u.oneCell' = true := by
        intro j u hu
        simp only [List.getElem?_map, Option.map_eq_some_iff] at hu
        obtain ⟨k, hk, rfl⟩ := hu
        have hk1 : k = j ∧ j < es.length * size := by
          obtain ⟨h1, h2⟩ := List.getElem?_eq_some_iff.1 hk
          simp at h1 h2
          exact ⟨h2.symm, h1⟩
        obtain ⟨rfl, hj⟩ := hk1
        have hd : k / size < es.length := Nat.div_lt_of_lt_mul (by rwa [Nat.mul_comm] at hj)
        have hm : k % size < size := Nat.mod_lt _ hsz
        have hr1 : es[k / size]? = some es[k / size] := List.getElem?_eq_getElem hd
        have hrl : (es[k / size]).length = size := hrow _ _ hr1
        have hc1 : (es[k / size])[k % size]? = some ((es[k / size])[k % size]'(by omega)) := List.getElem?_eq_getElem (by omega)
        have := hcell _ _ _ _ hr1 hc1
        rw [Nat.mul_comm, Nat.div_add_mod] at this
        exact ⟨this, (hrep _ _ _ _ hr1 hc1).one⟩
      refine (clone_call L i0 z size bytes hi hz0 hz1 hz2 hzs hsz z23 a es.length cap ((List.range (es.length * size)).map fun k => vs (k / size) (k % size)) w (by simp) (Nat.le_trans hcap hmax) hb (fun j u hu => (hnews j u hu).1)
        (fun u hu => by obtain ⟨j, hj⟩ := List.mem_iff_getElem?.1 hu; exact (hnews j u hj).2)).mono fun e w' ⟨v', he, hown, hne, hbel⟩ => ?_
      subst he
      obtain ⟨_, hown⟩ := hown
      rcases hown with ⟨rfl, _⟩ | ⟨g, cap', cur, rfl, hg, hh, hle, hmx, hsize, htake⟩
      · exact absurd rfl hne
      refine ⟨_, _, fun i b => i = 0 ∧ b = g, rfl, .one (.one _ _), hbel, fun i x hx => ?_, fun i b hx => ?_, fun i j b h1 h2 => h1.1.trans h2.1.symm, rfl, by simpa [cloneSpec] using hlv, by simp [S.leaves, C.leaves, C.nested, C.free], rfl⟩
      · match i, hx with
        | 0, hx =>
          simp at hx; subst hx
          refine .own 0 g 0 cap' size nl es vs (fun _ _ _ => False) (ρ.t 23) cur _ hnl ⟨rfl, rfl⟩ hh (by omega) hle hmx hrow ?_ ?_ (fun _ _ _ h => h.elim) (fun _ _ h => h) (fun _ _ _ _ _ h => h.elim)
          · intro i row j c hi hj
            have hi' : i < es.length := (List.getElem?_eq_some_iff.1 hi).1
            have hj' : j < size := by have := hrow i row hi; have := (List.getElem?_eq_some_iff.1 hj).1; omega
            have hlt : i * size + j < es.length * size := by
              have : (i + 1) * size ≤ es.length * size := Nat.mul_le_mul_right _ hi'
              rw [Nat.succ_mul] at this; omega
            have h1 : (cur.toList.take (es.length * size))[i * size + j]? = some (vs i j) := by
              rw [htake, List.getElem?_map, List.getElem?_range hlt]
              simp only [Option.map_some]
              rw [show (i * size + j) / size = i by rw [Nat.mul_comm, Nat.mul_add_div hsz, Nat.div_eq_of_lt hj', Nat.add_zero], show (i * size + j) % size = j by rw [Nat.mul_comm, Nat.mul_add_mod, Nat.mod_eq_of_lt hj']]
            rw [List.getElem?_take_of_lt hlt] at h1
            simpa using h1
          · intro i row j c hi hj
            obtain ⟨x, rfl⟩ := (hp row (List.mem_of_getElem? hi)).2 c (List.mem_of_getElem? hj)
            have := hrep i row j _ hi hj
            generalize vs i j = u at this ⊢
            cases this with
            | v _ _ _ h1 => exact .v _ _ _ h1
      · obtain ⟨rfl, rfl⟩ := hx
        exact ⟨hg, (Array.getElem?_eq_some_iff.1 hh).1⟩
end Go.Proofs.Gh
