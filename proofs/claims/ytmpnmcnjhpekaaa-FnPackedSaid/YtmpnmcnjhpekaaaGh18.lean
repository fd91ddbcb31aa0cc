/- The operations, ninth part. -/
import Derived.Test.YtmpnmcnjhpekaaaGh17
set_option linter.unusedSimpArgs false
namespace Go.Proofs.Gh
open Go.RowKit
section
variable {B : Base} {γ : Nat → Bx} {st : Nat → Prop} {ow : Nat → Option Ow} {hand : List (Value × C)} {σ : St} {w : World} {a : Act} {r : Res} {tmps : Array Value}

theorem zipIdx_parts : ∀ (ps : List (Nat × Operand)) (n0 : Nat) (ev : Operand → Value), ps.map (·.1) = (List.range ps.length).map (n0 + ·) → ps.map (fun x => (x.1, ev x.2)) = ((ps.map fun x => ev x.2).zipIdx n0).map fun x => (x.2, x.1)
  | [], _, _, _ => rfl
  | p :: ps, n0, ev, h => by
    simp only [List.map_cons, List.length_cons, List.range_succ_eq_map, List.map_map, List.cons.injEq] at h
    obtain ⟨h1, h2⟩ := h
    simp only [List.map_cons, List.zipIdx_cons, List.cons.injEq]
    refine ⟨by simp at h1; rw [← h1], zipIdx_parts ps (n0 + 1) ev (h2.trans ?_)⟩
    apply List.map_congr_left
    intro m _
    simp; omega
theorem done_buildSlice {P : Program} {E : Env} (hE : EnvTy P E) {o : Oper} {t : TypeId} {n : Nat} {ps : Array (Nat × Operand)} {k : S → St → Option Res} (R : Rel B γ st ow [] σ a.tmps w) (ho : o.op = .buildSlice t n ps)
    (h : (bound E t fun i => match i.kind with
      | .slice e => bound E e fun ie => if ps.size = n ∧ n * ie.cks.length ≤ 4096 ∧ 0 < ie.cks.length then buildRowsK E e ie.cks 0 σ ps.toList fun rows σ => k (.one (.al ⟨σ.boxes.length, 0, []⟩)) (σ.new true [.sl true (some false) ie.cks.length rows]) else none
      | _ => none) = some r) : DoneE P B st a w (execOp a.eval o) k r := by
  obtain ⟨i, hi, hk, h⟩ := bound_some h
  have hT := hE t i hi
  split at h
  · rename_i e hkind
    obtain ⟨ie, hie, hke, h⟩ := bound_some h
    have hTe := hE e ie hie
    obtain ⟨_, hd, _⟩ := hT.sliceE hkind
    split at h
    · rename_i hb
      obtain ⟨hb1, hb2, hb3⟩ := hb
      obtain ⟨f, z, h1, h2, h3, h4, h5, h6, h7, h8⟩ := zero_rep (st := st) (γ := γ) (w := w) hTe hke
      obtain ⟨xs, rows, σ1, ow1, hk1, R1, hb, hfl, hrl, hrows, hin, hfst, hcs, hidx⟩ := buildRows_ok ps.toList 0 (fun _ _ => rfl) R h
      simp only [List.nil_append] at R1
      have hlen : rows.length = n := by rw [hrl]; simpa using hb1
      have hcells : xs.length = n * ie.cks.length := by rw [← hlen, ← flatten_length rows hrows, ← hfl, List.length_map]
      obtain ⟨ow2, R2⟩ := R1.newOwn (hand := []) (hs := xs) hrows hfl (fun j y hj => (R1.hands j y hj).inner (hin y (List.mem_of_getElem? hj)) |>.mono fun b hb => by simpa using hb) n (by omega) (by simp only [maxLen]; have := Nat.le_mul_of_pos_right n hb3; omega)
        (xs.map (·.1)).toArray (fun j y hj => by simp [hj]) (by simp [hcells]) e (.inl rfl)
      obtain ⟨γ', ow3, R3, hc⟩ := R2.homeOwn (hand := []) (by simp)
      refine ⟨_, _, _, γ', ow3, _, ?_, ext_alloc _ _, hk1, R3, .one _ _ hc⟩
      rw [hlen]
      have hparts : (ps.map fun x => (x.1, a.eval x.2)).toList = ((ps.toList.map fun x => a.eval x.2).zipIdx 0).map fun x => (x.2, x.1) := by
        rw [Array.toList_map]
        exact zipIdx_parts ps.toList 0 a.eval (by simpa using hidx)
      have hn0 : n * f.size = n * ie.cks.length := by rw [h2]
      have hfill : Instr.fill (fun i => some (i * f.size, f.size)) ((Array.range (n * f.size)).map (z.cells[· % z.cells.size]!)) ((ps.map fun x => (x.1, a.eval x.2)).toList) = some (xs.map (·.1)).toArray := by
        rw [hparts, Go.Great.fill_whole (by rw [h2]; exact hb3) (ps.toList.map fun x => a.eval x.2) _ (fun v hv => by
          obtain ⟨y, hy, rfl⟩ := List.mem_map.1 hv
          rw [hcs y hy, h2]) (by simp [hb1])]
        rw [hfst, List.flatMap_map]
      have hnz : n * f.size = 0 → n = 0 := fun hz => by
        rw [h2] at hz
        rcases Nat.mul_eq_zero.1 hz with hz | hz
        · exact hz
        · omega
      by_cases hz : n = 0
      · subst hz
        have hps : ps.toList = [] := List.eq_nil_of_length_eq_zero (by simpa using hb1)
        have hxs : xs = [] := List.eq_nil_of_length_eq_zero (by simpa using hcells)
        subst hxs
        have hps' : ps = #[] := by simpa using hps
        simp [execOp, ho, Instr.buildSlice, run_underlying hd, sizeOf, typeInfo, h1, hps', Instr.fill, newRow, Array.range_zero']
      · have hlt : ¬ (2 ^ 24 < n * f.size) := by rw [hn0]; omega
        have hne : ¬ (n * f.size = 0) := fun hh => hz (hnz hh)
        have hlt2 : ¬ (16777216 < n * f.size) := by simpa using hlt
        simp only [execOp, ho, Sem.run_bind, Instr.buildSlice, run_underlying hd, sizeOf, typeInfo, h1, zeroValue, h5, Result.andThen_ok, Sem.run_pure]
        rw [Array.toList_map] at hfill
        simp [typeInfo, h1, h5, hlt2, hne, newRow]
        rw [hfill]
        simp
    · cases h
  · cases h
/-- The value that a nil slice, or a slice's elements, come to in the hand. -/
theorem plain_inner {us : Nat → Nat → Value} {n : Nat} {es : List (List C)} (hl : ∀ (i : Nat) (row : List C), es[i]? = some row → row.length = n) (h : ∀ (i j : Nat) (row : List C) (c : C), es[i]? = some row → row[j]? = some c → ∃ X, Rep st γ w 0 (us i j) c X) :
    ∀ y ∈ flat us 0 es, y.2.Inner := fun y hy => by
  obtain ⟨k, hk⟩ := List.getElem?_of_mem hy
  obtain ⟨i, j, row, c, _, hi, hj, rfl⟩ := flat_of_get us es 0 hl _ y hk
  obtain ⟨X, hr⟩ := h i j row c hi hj
  exact hr.isInner
/-- An operand that names what is there still, or the ghost goes no further. -/
theorem cell_after {σ1 : St} {n : Nat} {u : Value} {y' : C} {k : Bool → Option Bool → List (List C) → Option Res} (hy : CellOk σ st γ w u y') (hb1 : σ1.boxes.length = σ.boxes.length) (h : σ1.sliceK n y' k = some r) : CellOk σ1 st γ w u y' := by
  cases hy with
  | pa => simp [St.sliceK] at h
  | wi => simp [St.sliceK] at h
  | unk => exact .unk _
  | rep _ _ hr => exact .rep _ _ (by rw [hb1]; exact hr)
  | al p _ d' hd' hv' hp' =>
    cases hn : σ1.nodeC p with
    | some d2 =>
      by_cases hv2 : ∀ q, d2 ≠ .v q
      · exact .al _ _ d2 hn hv2 hp'
      · exfalso
        have : ∃ q, d2 = .v q := Classical.byContradiction fun hh => hv2 fun q e => hh ⟨q, e⟩
        obtain ⟨q, rfl⟩ := this
        unfold St.sliceK at h
        simp only at h
        split at h
        · rename_i hst
          unfold St.nodeC at hn
          rw [hst] at hn
          cases hrt : σ1.root p.r p.k with
          | none => rw [hrt] at hn; simp at hn
          | some c0 =>
            rw [hrt] at hn
            simp only [Option.bind_some, walkC, Option.some.injEq] at hn
            subst hn
            rw [hrt] at h
            simp at h
        · rw [nodeK_eq, hn] at h
          simp [C.asOwn] at h
    | none =>
      exfalso
      unfold St.sliceK at h
      simp only at h
      split at h
      · rename_i hst
        unfold St.nodeC at hn
        rw [hst] at hn
        cases hrt : σ1.root p.r p.k with
        | none => rw [hrt] at h; simp at h
        | some c0 => rw [hrt] at hn; simp [walkC] at hn
      · rw [nodeK_eq, hn] at h
        simp at h
  | pl => unfold St.sliceK at h; simp at h
  | rp => unfold St.sliceK at h; simp at h
/-- APPEND. -/
theorem done_append {P : Program} {E : Env} (hE : EnvTy P E) {o : Oper} {t : TypeId} {x y : Operand} {k : S → St → Option Res} (R : Rel B γ st ow [] σ a.tmps w)
    (ho : o.op = .call { callee := .builtin .append, args := #[x, y], argTypes := #[t, t] }) (h : σ.appendK E t (retype E t (σ.view x)) (retype E t (σ.view y)) k = some r) : Done P B st a w (execOp a.eval o) k r := by
  unfold St.appendK at h
  obtain ⟨i, hi, hk, h⟩ := bound_some h
  have hT := hE t i hi
  have hx := slot_retype E t (R.view x)
  have hy := slot_retype E t (R.view y)
  have hex : execOp a.eval o = (do pure (.value (← Builtin.append_ #[t, t] o.type #[a.eval x, a.eval y]))) := by simp [execOp, ho, resolve, invoke, builtin]
  rw [hex]
  split at h
  · rename_i e hkind
    obtain ⟨ie, hie, hke, h⟩ := bound_some h
    have hTe := hE e ie hie
    obtain ⟨_, hd, _⟩ := hT.sliceE hkind
    obtain ⟨f, z, h1, h2, h3, h4, h5, h6, _, _⟩ := zero_rep (st := st) (γ := γ) (w := w) hTe hke
    split at h
    · rename_i s hs
      rw [hs] at hx
      obtain ⟨d, σ1, ow1, h, R1, hb1⟩ := R.takeC (slot_one hx).pre h
      rw [Option.bind_eq_some_iff] at h
      obtain ⟨⟨nl, es⟩, hbase, h⟩ := h
      -- what is done once the elements are in the hand
      have hfin : ∀ {σ2 : St} {ow2 : Nat → Option Ow} {hs : List (Value × C)} {es' : List (List C)}, Rel B γ st ow2 ([] ++ [(a.eval x, d)] ++ hs) σ2 a.tmps w → (∀ (k : Nat) (row : List C), es'[k]? = some row → row.length = ie.cks.length) → hs.map (·.2) = es'.flatten → (∀ y ∈ hs, y.2.Inner) →
          ((a.eval y = .slice none 0 0 ∧ es' = []) ∨ ∃ ad c, a.eval y = .slice (some ad) es'.length c ∧ ∀ (j : Nat) (q : Value × C), hs[j]? = some q → w.cell? (ad.add j) = some q.1) → appendWith σ2 ie.cks.length ie.bytes (nl, es) es' k = some r →
          Done P B st a w (do pure (.value (← Builtin.append_ #[t, t] o.type #[a.eval x, a.eval y]))) k r := by
        intro σ2 ow2 hs es' R2 hsz hfl hin hval h
        unfold appendWith at h
        split at h
        · rename_i hbd
          obtain ⟨v', w', ow3, hr, R3⟩ := Rel.append (P := P) (hand := []) R2 t o.type e f z hd h1 h5 h6 h4 (by rw [h2]; exact hbase) (by rw [h2]; exact hsz) hfl hin hval (by rw [h3]; exact hbd)
          obtain ⟨γ', ow4, R4, hc⟩ := R3.homeOwn (hand := []) (by simp)
          rw [h2] at R4 hc
          exact ⟨v', _, _, γ', ow4, w', .inl (by simp only [Sem.run_bind, hr]; rfl), h, R4, .one _ _ hc⟩
        · cases h
      split at h
      · rename_i y' hs2
        rw [hs2] at hy
        split at h
        · rename_i hpl
          have hy1 : SlotOk σ1 st γ w (a.eval y) (.one y') := .one _ _ (cell_after (slot_one hy) hb1 h)
          obtain ⟨ob, nl', es', h, hsl, _⟩ := R1.sliceK hy1 h
          have hvv : ob = false ∨ rowsV es' = true := by
            cases ob with
            | false => exact .inl rfl
            | true =>
              right
              cases hr : rowsV es' with
              | true => rfl
              | false => rw [hr] at h; simp at h
          replace h : appendWith σ1 ie.cks.length ie.bytes (nl, es) es' k = some r := by
            split at h
            · cases h
            · exact h
          -- the elements own nothing
          rcases hsl.val with ⟨hu, he0, _⟩ | ⟨_, ad, cap, hu, _, _, _, hcells⟩
          · subst he0
            exact hfin (hs := []) (es' := []) (by simpa using R1) (by simp) rfl (by simp) (.inl ⟨hu, rfl⟩) h
          · obtain ⟨us, hus⟩ : ∃ us : Nat → Nat → Value, ∀ i j, us i j = (w.cell? (ad.add (i * ie.cks.length + j))).getD undef := ⟨fun i j => (w.cell? (ad.add (i * ie.cks.length + j))).getD undef, fun _ _ => rfl⟩
            have hel : ∀ (i j : Nat) (row : List C) (c : C), es'[i]? = some row → row[j]? = some c → w.cell? (ad.add (i * ie.cks.length + j)) = some (us i j) ∧ Rep st γ w 0 (us i j) c (fun _ => False) := fun i j row c hi hj => by
              obtain ⟨v, hv, hro, X, hr⟩ := hcells i row j c hi hj
              rw [hus, hv]
              refine ⟨rfl, ?_⟩
              rcases hvv with hvv | hvv
              · exact hro hvv
              · refine hr.noown ?_
                have h1 := List.all_eq_true.1 hvv row (List.mem_of_getElem? hi)
                have h2 := List.all_eq_true.1 h1 c (List.mem_of_getElem? hj)
                cases c <;> simp [C.isV] at h2 <;> rfl
            obtain ⟨ow2, R2⟩ := R1.takes0 (hs := flat us 0 es') (fun q hq => by
              obtain ⟨m, hm⟩ := List.getElem?_of_mem hq
              obtain ⟨i', j, row, c, _, hi', hj, rfl⟩ := flat_of_get us es' 0 hsl.rows _ q hm
              simp only [Nat.zero_add]
              exact (hel i' j row c hi' hj).2.any)
            refine hfin (hs := flat us 0 es') (es' := es') R2 hsl.rows (flat_snd us es' 0) (plain_inner hsl.rows fun i j row c hi hj => ⟨_, (hel i j row c hi hj).2⟩) (.inr ⟨ad, cap, hu, fun m q hq => ?_⟩) h
            obtain ⟨i', j, row, c, rfl, hi', hj, rfl⟩ := flat_of_get us es' 0 hsl.rows _ q hq
            simp only [Nat.zero_add]
            exact (hel i' j row c hi' hj).1
        · -- the elements are handed over
          have hpre : Pre σ1.boxes.length st γ w (a.eval y) y' := by rw [hb1]; exact (slot_one hy).pre
          obtain ⟨d', σ2, ow2, h, R2, hb2⟩ := R1.takeC hpre h
          rw [Option.bind_eq_some_iff] at h
          obtain ⟨⟨nl', es'⟩, hown, h⟩ := h
          have := asOwn_some hown
          simp only at this
          subst this
          obtain ⟨us, ow3, R3, hrows, hel, hval⟩ := R2.explode
          refine hfin (hs := flat us 0 es') (es' := es') R3 hrows (flat_snd us es' 0) (fun q hq => ?_) (hval.imp id fun ⟨g, o', cap, hv, hc⟩ => ⟨⟨g, o', none⟩, cap, hv, fun j q hq => by rw [add_lit]; exact hc j q hq⟩) h
          obtain ⟨m, hm⟩ := List.getElem?_of_mem hq
          exact (hel m q hm).isInner
      · cases h
    · cases h
  · cases h
end
end Go.Proofs.Gh
