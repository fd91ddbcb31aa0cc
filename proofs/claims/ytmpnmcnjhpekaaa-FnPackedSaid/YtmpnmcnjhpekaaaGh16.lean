/- The operations, seventh part: slices. -/
import Derived.Test.YtmpnmcnjhpekaaaGh15
import Derived.Great.FillDense
import Derived.Laws.MakeOwn
set_option linter.unusedSimpArgs false
namespace Go.Proofs.Gh
open Go.RowKit
section
variable {B : Base} {γ : Nat → Bx} {st : Nat → Prop} {ow : Nat → Option Ow} {hand : List (Value × C)} {σ : St} {w : World} {a : Act} {r : Res} {tmps : Array Value}

theorem slot_int {u : Value} {n : Int} {ki : IntKind} (h : SlotOk σ st γ w u (.one (.v (.int ki n)))) : u = .int ki n := slot_v h
theorem cell_sl {u : Value} {o : Bool} {nl : Option Bool} {sz : Nat} {es : List (List C)} (h : CellOk σ st γ w u (.sl o nl sz es)) : Rep st γ w σ.boxes.length u (.sl o nl sz es) (fun _ => False) := by
  cases h; assumption
theorem bounds_ok {P : Program} {n : Nat} {lo hi : Option S} {lv hv : Option Value} {k : Nat → Nat → Option Res} (hlo : ∀ s, lo = some s → ∃ v, lv = some v ∧ SlotOk σ st γ w v s) (hlo0 : lo = none → lv = none) (hhi : ∀ s, hi = some s → ∃ v, hv = some v ∧ SlotOk σ st γ w v s) (hhi0 : hi = none → hv = none)
    (h : sliceBoundsK n lo hi k = some r) : ∃ l m, l ≤ m ∧ m ≤ n ∧ k l m = some r ∧ ∀ isSlice cap, n ≤ cap → ∀ w2, (Instr.sliceBounds isSlice n cap lv hv none).run P w2 = .ok (l, m, cap) w2 := by
  unfold sliceBoundsK at h
  have hb : ∀ {v : Value} {x : Int} {y : Nat} {c : BoundsCode}, v = .int .i64 x → 0 ≤ x → x ≤ y → ∀ w2, (Instr.sliceBound v y c).run P w2 = .ok x.toNat w2 := fun {v x y c} hv h1 h2 => by
    simp [Instr.sliceBound, hv, asIntOf, h1, h2]
  split at h
  · rw [hlo0 rfl, hhi0 rfl]
    exact ⟨0, n, Nat.zero_le _, Nat.le_refl _, h, fun isSlice cap hc => by simp [Instr.sliceBounds]⟩
  · rename_i l
    obtain ⟨v, rfl, hv⟩ := hlo _ rfl
    rw [hhi0 rfl]
    simp only at h
    split at h
    · rename_i hh
      obtain ⟨h1, h2, h3⟩ := hh
      refine ⟨l.toNat, _, by omega, by omega, h, fun isSlice cap hc => ?_⟩
      simp [Instr.sliceBounds, hb (slot_int hv) h1 h2]
    · cases h
  · rename_i m
    obtain ⟨v, rfl, hv⟩ := hhi _ rfl
    rw [hlo0 rfl]
    simp only at h
    split at h
    · rename_i hh
      obtain ⟨h1, h2, h3⟩ := hh
      refine ⟨_, m.toNat, by omega, by omega, h, fun isSlice cap hc => ?_⟩
      simp [Instr.sliceBounds, hb (slot_int hv) h2 (by omega : m ≤ (cap : Int))]
    · cases h
  · rename_i l m
    obtain ⟨v, rfl, hv⟩ := hlo _ rfl
    obtain ⟨v', rfl, hv'⟩ := hhi _ rfl
    simp only at h
    split at h
    · rename_i hh
      obtain ⟨h1, h2, h3⟩ := hh
      refine ⟨l.toNat, m.toNat, by omega, by omega, h, fun isSlice cap hc => ?_⟩
      simp [Instr.sliceBounds, hb (slot_int hv') (by omega : 0 ≤ m) (by omega : m ≤ (cap : Int)), hb (slot_int hv) h1 (by omega : l ≤ (m.toNat : Int))]
    · cases h
  · cases h
theorem optS {x : Option Operand} (R : Rel B γ st ow hand σ a.tmps w) : (∀ s, x.map σ.view = some s → ∃ v, x.map a.eval = some v ∧ SlotOk σ st γ w v s) ∧ (x.map σ.view = none → x.map a.eval = none) := by
  cases x with
  | none => exact ⟨fun s h => by simp at h, fun _ => rfl⟩
  | some x => exact ⟨fun s h => ⟨_, rfl, by simp at h; subst h; exact R.view x⟩, fun h => by simp at h⟩
theorem cut_cells {es : List (List C)} {l m i : Nat} {row : List C} (h : ((es.take m).drop l)[i]? = some row) : es[l + i]? = some row := by
  rw [List.getElem?_drop, List.getElem?_take] at h
  split at h
  · exact h
  · cases h
theorem cut_nl {nl : Option Bool} : (cutNl nl ≠ some true) ∧ (nl ≠ some false → cutNl nl ≠ some false) := by
  cases nl with
  | none => simp [cutNl]
  | some b => cases b <;> simp [cutNl]
theorem run_slice_ty {P : Program} {t e : TypeId} (hd : P.underlying t = some (.slice e)) {f : TypeInfo} (hf : P.info? e = some f) {ad : Option Addr} {len cap l m : Nat} {lv hv : Option Value} (hb : ∀ w2, (Instr.sliceBounds true len cap lv hv none).run P w2 = .ok (l, m, cap) w2) (w2 : World) :
    (Instr.sliceAt t (.slice ad len cap) lv hv none).run P w2 = .ok (.slice (if cap = l then ad else ad.map (·.add (l * f.size))) (m - l) (cap - l)) w2 := by
  simp [Instr.sliceAt, run_underlying hd, Instr.slice, hb, sizeOf, typeInfo, hf]
/-- SLICE: of a text, of a slice that is only read, of one's own. -/
theorem done_slice {P : Program} {E : Env} (hE : EnvTy P E) {o : Oper} {t : TypeId} {x : Operand} {lo hi : Option Operand} {k : S → St → Option Res} (R : Rel B γ st ow [] σ a.tmps w) (ho : o.op = .slice t x lo hi none)
    (h : (bound E t fun i => match i.kind, i.cks with
      | .slice _, [.sl n] => bif E.win (o.dst.getD 0) then σ.sliceWinK n (σ.view x) (lo.map σ.view) (hi.map σ.view) k else σ.sliceOpK n (σ.view x) (lo.map σ.view) (hi.map σ.view) k
      | .scalar, [.str] => σ.sliceStrK (σ.view x) (lo.map σ.view) (hi.map σ.view) k
      | _, _ => none) = some r) : DoneA P B st a w (execOp a.eval o) k r := by
  obtain ⟨i, hi', hk, h⟩ := bound_some h
  have hT := hE t i hi'
  have hx := R.view x
  obtain ⟨hlo1, hlo2⟩ := optS (x := lo) R
  obtain ⟨hhi1, hhi2⟩ := optS (x := hi) R
  split at h
  · rename_i e n hkind hcks
    obtain ⟨_, hd, n', f, hcks', hf, hfn⟩ := hT.sliceE hkind
    rw [hcks] at hcks'
    cases hcks'
    cases hwin : E.win (o.dst.getD 0) with
    | true =>
      rw [hwin, cond_true] at h
      unfold St.sliceWinK at h
      split at h
      · rename_i p hs
        rw [hs] at hx
        rw [nodeK_eq, Option.bind_eq_some_iff] at h
        obtain ⟨d, hdn, h⟩ := h
        rw [Option.bind_eq_some_iff] at h
        obtain ⟨⟨nl, es⟩, hx2, h⟩ := h
        have hd2 := asOwn_some hx2
        simp only at hd2 h
        subst hd2
        obtain ⟨l, m, hlm, hmn, hk2, hrun⟩ := bounds_ok (P := P) hlo1 hlo2 hhi1 hhi2 h
        obtain ⟨_, _, v, Z, n', _, _, hv, hr, hnl, hZ, _⟩ := R.node hdn
        have hal := slot_one hx
        have hu : a.eval x = v := by
          obtain ⟨_, _, _, hp⟩ := cell_al hal
          rw [hp] at hv; cases hv; rfl
        have hex : execOp a.eval o = (do pure (.value (← Instr.sliceAt t v (lo.map a.eval) (hi.map a.eval) none))) := by simp only [execOp, ho, hu, Option.map_none]
        rw [hex]
        rw [hu] at hal
        cases hr with
        | nil _ _ _ _ _ h1 =>
          have := run_slice_ty (P := P) hd hf (ad := none) (hrun true 0 (by simp))
          rw [hfn] at this
          refine done_of R (fun w2 => by simp only [Sem.run_bind, List.length_nil] at this ⊢; rw [this]; rfl) hk2 (.one _ _ (.wi p n l m 0 0 none hal hlm (by simpa using hmn)))
        | own _ g o' cap _ _ _ us Xs e' cur _ h1 h2 h3 h4 h5 h6 h7 h8 h9 h10 h11 h12 =>
          have := run_slice_ty (P := P) hd hf (ad := some ⟨g, o', none⟩) (hrun true cap h5)
          rw [hfn] at this
          exact done_of R (fun w2 => by simp only [Sem.run_bind] at this ⊢; rw [this]; rfl) hk2 (.one _ _ (.wi p n l m es.length cap (some ⟨g, o', none⟩) hal hlm hmn))
      · cases h
    | false =>
    rw [hwin, cond_false] at h
    unfold St.sliceOpK at h
    split at h
    · rename_i nl sz es hs
      rw [hs] at hx
      split at h
      · rename_i e0
        subst e0
        obtain ⟨l, m, hlm, hmn, hk2, hrun⟩ := bounds_ok (P := P) hlo1 hlo2 hhi1 hhi2 h
        have hrep : Rep st γ w σ.boxes.length (a.eval x) (.sl false nl sz es) (fun _ => False) := cell_sl (slot_one hx)
        have hex : execOp a.eval o = (do pure (.value (← Instr.sliceAt t (a.eval x) (lo.map a.eval) (hi.map a.eval) none))) := by simp only [execOp, ho, Option.map_none]
        rw [hex]
        generalize a.eval x = u at hrep hx
        cases hrep with
        | nil _ _ _ _ _ h1 =>
          have hl0 : l = 0 ∧ m = 0 := by simp at hmn; omega
          obtain ⟨rfl, rfl⟩ := hl0
          have := run_slice_ty (P := P) hd hf (ad := none) (hrun true 0 (by simp))
          refine done_of R (fun w2 => by simp only [Sem.run_bind, List.length_nil] at this ⊢; rw [this]; rfl) hk2 (.one _ _ (.rep _ _ ?_))
          simpa using Rep.nil _ _ _ _ _ (cut_nl.2 h1)
        | ro _ ad cap _ _ _ us _ h1 h2 h3 h4 h5 h6 h7 =>
          have := run_slice_ty (P := P) hd hf (ad := some ad) (hrun true cap h3)
          have hlen : ((es.take m).drop l).length = m - l := by simp; omega
          have hrep2 : Rep st γ w σ.boxes.length (.slice (if cap = l then some ad else (some ad).map (·.add (l * f.size))) (m - l) (cap - l)) (.sl false (cutNl nl) sz ((es.take m).drop l)) (fun _ => False) := by
            rw [← hlen, hfn]
            by_cases hcl : cap = l
            · rw [if_pos hcl]
              have h0 : (es.take m).drop l = [] := List.eq_nil_of_length_eq_zero (by rw [hlen]; omega)
              rw [h0]
              exact Rep.ro _ ad _ sz _ [] us _ cut_nl.1 (fun h => absurd rfl h) (by simp) (by simp only [maxLen] at h4 ⊢; omega) (by simp) (by simp) (by simp)
            · rw [if_neg hcl]
              refine Rep.ro _ (ad.add (l * sz)) _ sz _ _ (fun i j => us (l + i) j) _ cut_nl.1 (fun h => ?_) (by rw [hlen]; omega) (by simp only [maxLen] at h4 ⊢; omega) (fun i row hi => h5 _ _ (cut_cells hi)) (fun i row j c hi hj => ?_) (fun i row j c hi hj => h7 _ _ _ _ (cut_cells hi) hj)
              · rw [add_block]; exact h2 (fun e => h (by subst e; simp))
              · rw [add_add, ← h6 _ _ _ _ (cut_cells hi) hj]
                congr 2
                rw [Nat.add_mul]; omega
          exact done_of R (fun w2 => by simp only [Sem.run_bind] at this ⊢; rw [this]; rfl) hk2 (.one _ _ (.rep _ _ hrep2))
      · cases h
    · rename_i p hs
      rw [hs] at hx
      rw [nodeK_eq, Option.bind_eq_some_iff] at h
      obtain ⟨d, hdn, h⟩ := h
      rw [Option.bind_eq_some_iff] at h
      obtain ⟨⟨nl, es⟩, hx2, h⟩ := h
      have hd2 := asOwn_some hx2
      simp only at hd2 h
      subst hd2
      obtain ⟨l, m, hlm, hmn, hk2, hrun⟩ := bounds_ok (P := P) hlo1 hlo2 hhi1 hhi2 h
      obtain ⟨v, ow1, hv, R1⟩ := R.take hdn
      have hu : a.eval x = v := by
        generalize a.eval x = u at hx
        cases slot_one hx with
        | rep _ _ hr => cases hr
        | al _ _ _ _ _ hp => rw [hp] at hv; cases hv; rfl
      have hex : execOp a.eval o = (do pure (.value (← Instr.sliceAt t v (lo.map a.eval) (hi.map a.eval) none))) := by simp only [execOp, ho, hu, Option.map_none]
      rw [hex]
      have hrep := R1.hands 0 (v, .sl true nl n es) rfl
      simp only at hrep
      have hlen : ((es.take m).drop l).length = m - l := by simp; omega
      have hgo : ∀ (v' : Value), (∀ w2, (Instr.sliceAt t v (lo.map a.eval) (hi.map a.eval) none).run P w2 = .ok v' w2) → Rep st γ w ((σ.put p .unk).kill (C.beyond p)).boxes.length v' (.sl true (cutNl nl) n ((es.take m).drop l)) (fun b => ow1 b = some (.hand 0)) →
          DoneA P B st a w (do pure (.value (← Instr.sliceAt t v (lo.map a.eval) (hi.map a.eval) none))) k r := fun v' hr hrp => by
        obtain ⟨ow2, R2⟩ := R1.gather (hand := []) (hs := [(v, .sl true nl n es)]) (w' := w) rfl rfl rfl (fun _ _ _ => rfl) (Nat.le_refl _) (hrp.mono fun b hb => .inl ⟨0, by simpa using hb⟩)
        obtain ⟨γ', ow3, R3, hc, _⟩ := R2.newFree (by simp)
        rw [show ((σ.put p .unk).kill (C.beyond p)).boxes.length = σ.boxes.length from length_put _ _ _] at hc
        exact ⟨v', _, _, γ', ow3, fun w2 => by simp only [Sem.run_bind] at hr ⊢; rw [hr]; rfl, hk2, R3, .one _ _ hc⟩
      cases hrep with
      | nil _ _ _ _ _ h1 =>
        have hl0 : l = 0 ∧ m = 0 := by simp at hmn; omega
        obtain ⟨rfl, rfl⟩ := hl0
        have := run_slice_ty (P := P) hd hf (ad := none) (hrun true 0 (by simp))
        refine hgo _ (by simpa using this) ?_
        simpa using Rep.nil _ _ _ _ _ (cut_nl.2 h1)
      | own _ g o' cap _ _ _ us Xs e' cur _ h1 h2 h3 h4 h5 h6 h7 h8 h9 h10 h11 h12 =>
        have := run_slice_ty (P := P) hd hf (ad := some ⟨g, o', none⟩) (hrun true cap h5)
        refine hgo _ this ?_
        rw [← hlen, hfn]
        have hsz2 : (if cap = l then some (⟨g, o', none⟩ : Addr) else (some (⟨g, o', none⟩ : Addr)).map (·.add (l * n))) = some ⟨g, if cap = l then o' else o' + l * n, none⟩ := by
          split <;> simp [add_lit]
        rw [hsz2]
        refine Rep.own _ g _ (cap - l) n _ _ (fun i j => us (l + i) j) (fun i j => Xs (l + i) j) e' cur _ cut_nl.1 h2 h3 ?_ (by rw [hlen]; omega) (by simp only [maxLen] at h6 ⊢; omega) (fun i row hi => h7 _ _ (cut_cells hi)) (fun i row j c hi hj => ?_) (fun i row j c hi hj => h9 _ _ _ _ (cut_cells hi) hj) (fun i j b hb => h10 _ _ _ hb) (fun i j => h11 _ _) (fun i j i' j' b hb hb' => ?_)
        · split
          · rename_i hcl; subst hcl; simp; have := Nat.zero_le (cap * n); omega
          · have : (cap - l) * n + l * n = cap * n := by rw [← Nat.add_mul]; congr 1; omega
            omega
        · have hlt : i < ((es.take m).drop l).length := (List.getElem?_eq_some_iff.1 hi).1
          rw [hlen] at hlt
          rw [if_neg (by omega), ← h8 _ _ _ _ (cut_cells hi) hj]
          congr 1
          rw [Nat.add_mul]; omega
        · have := h12 _ _ _ _ b hb hb'
          exact ⟨by omega, this.2⟩
    · cases h
  · rename_i hkind hcks
    have hstr : P.underlying t = some .string := by
      obtain ⟨d, h1, h2, h3⟩ := hT.desc
      cases d with
      | int k => rw [h3.1] at hcks; cases hcks
      | bool => rw [h3.1] at hcks; cases hcks
      | string => exact h1
      | slice e => rw [hkind] at h3; cases h3.1
      | struct fs => obtain ⟨p, hp, _⟩ := h3; rw [hkind] at hp; cases hp
      | array n e => have hh : i.kind = .array n e := h3; rw [hkind] at hh; cases hh
      | tuple ts => have hh : i.kind = .tuple ts.toList := h3; rw [hkind] at hh; cases hh
      | _ => rw [h3.2] at hcks; cases hcks
    unfold St.sliceStrK at h
    split at h
    · rename_i s hs
      rw [hs] at hx
      have hv := slot_v hx
      obtain ⟨l, m, hlm, hmn, hk2, hrun⟩ := bounds_ok (P := P) hlo1 hlo2 hhi1 hhi2 h
      have := hrun false s.size (Nat.le_refl _)
      refine done_of R ?_ hk2 (slotV _ rfl)
      simp [execOp, ho, hv, Instr.sliceAt, run_underlying hstr, Instr.slice, this]
    · cases h
  · cases h
end
end Go.Proofs.Gh
