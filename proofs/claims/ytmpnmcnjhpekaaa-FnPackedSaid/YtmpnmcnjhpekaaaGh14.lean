/- The operations, fifth part: numbers, addresses, lengths. -/
import Derived.Test.YtmpnmcnjhpekaaaGh13
namespace Go.Proofs.Gh
open Go.RowKit
section
variable {B : Base} {γ : Nat → Bx} {st : Nat → Prop} {ow : Nat → Option Ow} {hand : List (Value × C)} {σ : St} {w : World} {a : Act} {r : Res} {tmps : Array Value}

/-- A slice operand, told. -/
structure SliceIs (st : Nat → Prop) (γ : Nat → Bx) (w : World) (n : Nat) (u : Value) (o : Bool) (nl : Option Bool) (es : List (List C)) : Prop where
  rows : ∀ (i : Nat) (row : List C), es[i]? = some row → row.length = n
  val : (u = .slice none 0 0 ∧ es = [] ∧ nl ≠ some false) ∨ (nl ≠ some true ∧ ∃ (ad : Addr) (cap : Nat), u = .slice (some ad) es.length cap ∧ es.length ≤ cap ∧ cap ≤ maxLen ∧ (o = false → es ≠ [] → st ad.block) ∧
    ∀ (i : Nat) (row : List C) (j : Nat) (c : C), es[i]? = some row → row[j]? = some c → ∃ v, w.cell? (ad.add (i * n + j)) = some v ∧ (o = false → Rep st γ w 0 v c (fun _ => False)) ∧ ∃ X, Rep st γ w 0 v c X)
theorem SliceIs.of {n m : Nat} {u : Value} {o : Bool} {nl : Option Bool} {es : List (List C)} {X : Nat → Prop} (h : Rep st γ w m u (.sl o nl n es) X) : SliceIs st γ w n u o nl es := by
  cases h with
  | nil _ _ _ _ _ h1 => exact ⟨by simp, .inl ⟨rfl, rfl, h1⟩⟩
  | ro _ ad cap sz nl es us _ h1 h2 h3 h4 h5 h6 h7 =>
    exact ⟨h5, .inr ⟨h1, ad, cap, rfl, h3, h4, fun _ => h2, fun i row j c hi hj => ⟨_, h6 i row j c hi hj, fun _ => h7 i row j c hi hj, _, h7 i row j c hi hj⟩⟩⟩
  | own _ g o cap sz _ _ us Xs e cur _ h1 h2 h3 h4 h5 h6 h7 h8 h9 h10 h11 h12 =>
    exact ⟨h7, .inr ⟨h1, ⟨g, o, none⟩, cap, rfl, h5, h6, fun h => by simp at h, fun i row j c hi hj => ⟨_, by rw [add_lit, cell_of_row w g _ cur e (0, 0) h3]; exact h8 _ _ _ _ hi hj, fun h => by simp at h, _, h9 _ _ _ _ hi hj⟩⟩⟩
theorem Rel.sliceK (R : Rel B γ st ow hand σ tmps w) {n : Nat} {u : Value} {x : C} (hx : SlotOk σ st γ w u (.one x)) {k : Bool → Option Bool → List (List C) → Option Res} (h : σ.sliceK n x k = some r) :
    ∃ o nl es, k o nl es = some r ∧ SliceIs st γ w n u o nl es ∧ ((∃ p, x = .al p ∧ σ.nodeC p = some (.sl o nl n es) ∧ placeV γ w p = some u) ∨ (x = .sl o nl n es ∧ Rep st γ w σ.boxes.length u x (fun _ => False))) := by
  cases hx with
  | one _ _ hc =>
    unfold St.sliceK at h
    split at h
    · rename_i o nl sz es
      split at h
      · rename_i e
        subst e
        cases hc with
        | rep _ _ hr => exact ⟨o, nl, es, h, SliceIs.of hr, .inr ⟨rfl, hr⟩⟩
      · cases h
    · rename_i p
      have hal : ∀ {o nl es}, σ.nodeC p = some (.sl o nl n es) → SliceIs st γ w n u o nl es ∧ placeV γ w p = some u := fun hd => by
        obtain ⟨_, _, v, Z, k, _, _, hv, hr, _⟩ := R.node hd
        cases hc with
        | rep _ _ hr => cases hr
        | al _ _ d _ _ hp =>
          rw [hp] at hv
          cases hv
          exact ⟨SliceIs.of hr, hp⟩
      split at h
      · rename_i hs
        split at h
        · rename_i o nl sz es hrt
          split at h
          · rename_i e
            subst e
            have hd : σ.nodeC p = some (.sl o nl sz es) := by unfold St.nodeC; rw [hrt, hs]; rfl
            obtain ⟨h1, h2⟩ := hal hd
            exact ⟨o, nl, es, h, h1, .inl ⟨p, rfl, hd, h2⟩⟩
          · cases h
        · cases h
      · rw [nodeK_eq, Option.bind_eq_some_iff] at h
        obtain ⟨d, hd, h⟩ := h
        rw [Option.bind_eq_some_iff] at h
        obtain ⟨⟨nl, es⟩, hx, h⟩ := h
        have := asOwn_some hx
        subst this
        obtain ⟨h1, h2⟩ := hal hd
        exact ⟨true, nl, es, h, h1, .inl ⟨p, rfl, hd, h2⟩⟩
    · cases h
theorem slotV (x : Value) (h : x.oneCell' = true) : SlotOk σ st γ w x (.one (.v x)) := .one _ _ (.rep _ _ (.v _ _ _ h))

theorem slot_one {u : Value} {c : C} (h : SlotOk σ st γ w u (.one c)) : CellOk σ st γ w u c := by
  cases h; assumption
theorem TyOk.structE {P : Program} {t : TypeId} {i : TI} (hT : TyOk P t i) {parts : List (Nat × Nat × Bool)} (hk : i.kind = .struct parts) :
    i.agg = true ∧ ∃ fs, P.underlying t = some (.struct fs) ∧ parts.length = fs.size ∧ ∀ (k : Nat) (q : Nat × Nat × Bool), parts[k]? = some q → ∃ fd ff, fs[k]? = some fd ∧ P.info? fd.type = some ff ∧ q = (fd.offset, ff.size, aggDesc (P.underlying fd.type)) ∧ ff.size ≠ 0 ∧ (P.underlying fd.type).isSome := by
  obtain ⟨d, h1, h2, h3⟩ := hT.desc
  cases d with
  | struct fs =>
    obtain ⟨parts', hp, h3⟩ := h3
    rw [hk] at hp
    cases hp
    exact ⟨h2, fs, h1, h3⟩
  | slice e => obtain ⟨hh, _⟩ := h3; rw [hk] at hh; cases hh
  | array n e => have hh : i.kind = .array n e := h3; rw [hk] at hh; cases hh
  | tuple ts => have hh : i.kind = .tuple ts.toList := h3; rw [hk] at hh; cases hh
  | int k => obtain ⟨_, hh⟩ := h3; rw [hk] at hh; cases hh
  | bool => obtain ⟨_, hh⟩ := h3; rw [hk] at hh; cases hh
  | string => obtain ⟨_, hh⟩ := h3; rw [hk] at hh; cases hh
  | _ => obtain ⟨hh, _⟩ := h3; rw [hk] at hh; cases hh
theorem TyOk.sliceE {P : Program} {t : TypeId} {i : TI} (hT : TyOk P t i) {e : TypeId} (hk : i.kind = .slice e) : i.agg = false ∧ P.underlying t = some (.slice e) ∧ ∃ n f, i.cks = [.sl n] ∧ P.info? e = some f ∧ f.size = n := by
  obtain ⟨d, h1, h2, h3⟩ := hT.desc
  cases d with
  | struct fs => obtain ⟨parts', hp, h3⟩ := h3; rw [hk] at hp; cases hp
  | slice e => obtain ⟨hh, h3⟩ := h3; rw [hk] at hh; cases hh; exact ⟨h2, h1, h3⟩
  | array n e => have hh : i.kind = .array n e := h3; rw [hk] at hh; cases hh
  | tuple ts => have hh : i.kind = .tuple ts.toList := h3; rw [hk] at hh; cases hh
  | int k => obtain ⟨_, hh⟩ := h3; rw [hk] at hh; cases hh
  | bool => obtain ⟨_, hh⟩ := h3; rw [hk] at hh; cases hh
  | string => obtain ⟨_, hh⟩ := h3; rw [hk] at hh; cases hh
  | _ => obtain ⟨hh, _⟩ := h3; rw [hk] at hh; cases hh
theorem TyOk.arrayE {P : Program} {t : TypeId} {i : TI} (hT : TyOk P t i) {n : Nat} {e : TypeId} (hk : i.kind = .array n e) : P.underlying t = some (.array n e) := by
  obtain ⟨d, h1, h2, h3⟩ := hT.desc
  cases d with
  | struct fs => obtain ⟨parts', hp, h3⟩ := h3; rw [hk] at hp; cases hp
  | slice e => obtain ⟨hh, h3⟩ := h3; rw [hk] at hh; cases hh
  | array n e => have hh : i.kind = .array n e := h3; rw [hk] at hh; cases hh; exact h1
  | tuple ts => have hh : i.kind = .tuple ts.toList := h3; rw [hk] at hh; cases hh
  | int k => obtain ⟨_, hh⟩ := h3; rw [hk] at hh; cases hh
  | bool => obtain ⟨_, hh⟩ := h3; rw [hk] at hh; cases hh
  | string => obtain ⟨_, hh⟩ := h3; rw [hk] at hh; cases hh
  | _ => obtain ⟨hh, _⟩ := h3; rw [hk] at hh; cases hh
theorem done_nilCheck {P : Program} {o : Oper} {x : Operand} {k : S → St → Option Res} (R : Rel B γ st ow [] σ a.tmps w) (ho : o.op = .nilCheck x)
    (h : (match σ.view x with | .one (.pl p) => k (.one (.pl p)) σ | .one (.rp cs) => k (.one (.rp cs)) σ | .one (.fn f cs) => k (.one (.fn f cs)) σ | .one (.pa r j ps) => k (.one (.pa r j ps)) σ | _ => none) = some r) : DoneA P B st a w (execOp a.eval o) k r := by
  have hx := R.view x
  split at h
  · rename_i p hs
    rw [hs] at hx
    refine ⟨a.eval x, _, σ, γ, ow, fun w2 => ?_, h, R, hx⟩
    simp only [execOp, ho]
    generalize a.eval x = u at hx
    cases hx with
    | one _ _ hc =>
      cases hc with
      | rep _ _ hr => cases hr; rfl
      | pl => rfl
  · rename_i cs hs
    rw [hs] at hx
    refine ⟨a.eval x, _, σ, γ, ow, fun w2 => ?_, h, R, hx⟩
    simp only [execOp, ho]
    generalize a.eval x = u at hx
    cases hx with
    | one _ _ hc =>
      obtain ⟨ad, us, rfl, h1, h2, h3⟩ := cell_rp hc
      rfl
  · rename_i f cs hs
    rw [hs] at hx
    refine ⟨a.eval x, _, σ, γ, ow, fun w2 => ?_, h, R, hx⟩
    simp only [execOp, ho]
    generalize a.eval x = u at hx
    cases hx with
    | one _ _ hc =>
      cases hc with
      | rep _ _ hr => cases hr; rfl
  · rename_i r0 j ps hs
    rw [hs] at hx
    refine ⟨a.eval x, _, σ, γ, ow, fun w2 => ?_, h, R, hx⟩
    simp only [execOp, ho]
    generalize a.eval x = u at hx
    cases hx with
    | one _ _ hc =>
      cases hc with
      | rep _ _ hr => cases hr
      | pa => rfl
  · cases h
theorem pa_add {u : Value} {r k : Nat} {ps : List (Option Place)} (n : Nat) (h : CellOk σ st γ w u (.pa r k ps)) : ∃ ad, u = .pointer (some ad) ∧ CellOk σ st γ w (.pointer (some (ad.add n))) (.pa r (k + n) (ps.drop n)) := by
  cases h with
  | rep _ _ hr => cases hr
  | pa _ _ g o _ us h1 h2 h3 h4 =>
    refine ⟨_, rfl, ?_⟩
    rw [add_lit, Nat.add_assoc]
    refine .pa r (k + n) g o _ (fun j => us (n + j)) h1 h2 (fun j p hp => ?_) (fun j p hp => ?_)
    · rw [List.getElem?_drop] at hp
      have := h3 (n + j) p hp
      rw [← Nat.add_assoc] at this
      exact this
    · rw [List.getElem?_drop] at hp
      exact h4 (n + j) p hp
/-- A place further on in its element, or box. -/
theorem place_add {u : Value} {p : Place} (n : Nat) (h : CellOk σ st γ w u (.pl p)) : ∃ ad, u = .pointer (some ad) ∧ CellOk σ st γ w (.pointer (some (ad.add n))) (.pl (p.add n)) := by
  cases h with
  | rep _ _ hr =>
    cases hr with
    | box _ r0 k0 g o _ hlt hg =>
      refine ⟨_, rfl, .rep _ _ ?_⟩
      rw [add_lit, Nat.add_assoc]
      exact .box _ _ _ _ _ _ hlt hg
  | pl _ before s d ad hs hd hx ha =>
    obtain ⟨r0, k0, steps⟩ := p
    simp only at hs hd
    subst hs
    refine ⟨ad, rfl, ?_⟩
    rw [Place.add_append]
    refine .pl _ before ⟨s.i, s.j + n, s.sz⟩ d _ rfl hd hx ?_
    rw [placeA_append] at ha ⊢
    cases hv : placeV γ w ⟨r0, k0, before⟩ with
    | none => rw [hv] at ha; simp at ha
    | some v =>
      rw [hv] at ha
      simp only [Option.bind_some] at ha ⊢
      split at ha
      · simp only [Option.some.injEq] at ha ⊢
        rw [← ha, add_add]
        congr 1
        omega
      · cases ha
theorem rp_add {u : Value} {cs : List C} (n : Nat) (h : CellOk σ st γ w u (.rp cs)) : ∃ ad, u = .pointer (some ad) ∧ CellOk σ st γ w (.pointer (some (ad.add n))) (.rp (cs.drop n)) := by
  obtain ⟨ad, us, rfl, h1, h2, h3⟩ := cell_rp h
  · refine ⟨ad, rfl, .rp _ _ (fun j => us (n + j)) (fun he => ?_) (fun j c hj => ?_) (fun j c hj => ?_)⟩
    · rw [add_block]; exact h1 (fun e => he (by rw [e]; simp))
    · rw [List.getElem?_drop] at hj; rw [add_add]; exact h2 _ _ hj
    · rw [List.getElem?_drop] at hj; exact h3 _ _ hj
theorem done_fieldAddr {P : Program} {E : Env} (hE : EnvTy P E) {o : Oper} {t : TypeId} {x : Operand} {f : Nat} {k : S → St → Option Res} (R : Rel B γ st ow [] σ a.tmps w) (ho : o.op = .fieldAddr t x f)
    (h : (bound E t fun i => match i.kind with
      | .struct parts => (parts[f]?).bind fun q => match σ.view x with
        | .one (.pl p) => k (.one (.pl (p.add q.1))) σ
        | .one (.rp cs) => k (.one (.rp (cs.drop q.1))) σ
        | .one (.pa r j ps) => k (.one (.pa r (j + q.1) (ps.drop q.1))) σ
        | _ => none
      | _ => none) = some r) : DoneA P B st a w (execOp a.eval o) k r := by
  obtain ⟨i, hi, hk, h⟩ := bound_some h
  have hT := hE t i hi
  split at h
  · rename_i parts hparts
    rw [Option.bind_eq_some_iff] at h
    obtain ⟨q, hq, h⟩ := h
    obtain ⟨_, fs, hd1, _, hd3⟩ := hT.structE hparts
    obtain ⟨fd, ff, h1, h2, h3', h4, _⟩ := hd3 f q hq
    have h3 : q.1 = fd.offset := by rw [h3']
    have hrun : ∀ ad, a.eval x = .pointer (some ad) → ∀ w2, (execOp a.eval o).run P w2 = .ok (.value (.pointer (some (ad.add q.1)))) w2 := fun ad hv w2 => by
      simp [execOp, ho, Instr.fieldAt, run_underlying hd1, h1, hv, Instr.sureAddr, fieldPlace, sizeOf, typeInfo, h2, h4, h3]
    have hx := R.view x
    split at h
    · rename_i p hs
      rw [hs] at hx
      have hx2 : CellOk σ st γ w (a.eval x) (.pl p) := slot_one hx
      obtain ⟨ad, hv, hc⟩ := place_add q.1 hx2
      exact ⟨_, _, σ, γ, ow, hrun ad hv, h, R, .one _ _ hc⟩
    · rename_i cs hs
      rw [hs] at hx
      have hx2 : CellOk σ st γ w (a.eval x) (.rp cs) := slot_one hx
      obtain ⟨ad, hv, hc⟩ := rp_add q.1 hx2
      exact ⟨_, _, σ, γ, ow, hrun ad hv, h, R, .one _ _ hc⟩
    · rename_i r0 j ps hs
      rw [hs] at hx
      have hx2 : CellOk σ st γ w (a.eval x) (.pa r0 j ps) := slot_one hx
      obtain ⟨ad, hv, hc⟩ := pa_add q.1 hx2
      exact ⟨_, _, σ, γ, ow, hrun ad hv, h, R, .one _ _ hc⟩
    · cases h
  · cases h
theorem done_indexAddr {P : Program} {E : Env} (hE : EnvTy P E) {o : Oper} {t : TypeId} {x ix : Operand} {k : S → St → Option Res} (R : Rel B γ st ow [] σ a.tmps w) (ho : o.op = .indexAddr t x ix)
    (h : (bound E t fun i => match σ.view ix with
      | .one (.v (.int _ n)) => σ.indexAddrK E i (σ.view x) n fun s => k s σ
      | _ => none) = some r) : DoneA P B st a w (execOp a.eval o) k r := by
  obtain ⟨i, hi, hk, h⟩ := bound_some h
  have hT := hE t i hi
  have hix := R.view ix
  split at h
  · rename_i ki n hs
    rw [hs] at hix
    have hn := slot_v hix
    have hx := R.view x
    unfold St.indexAddrK at h
    split at h
    · -- a slice
      rename_i e x' hkind hsx
      rw [hsx] at hx
      obtain ⟨ie, hie, hke, h⟩ := bound_some h
      have hTe := hE e ie hie
      obtain ⟨_, hd1, _⟩ := hT.sliceE hkind
      obtain ⟨ob, nl, es, h, hsl, hwhere⟩ := R.sliceK hx h
      split at h
      · rename_i hb
        obtain ⟨hb1, hb2⟩ := hb
        have hlt : n.toNat < es.length := by omega
        have hrow := List.getElem?_eq_getElem hlt
        rcases hsl.val with ⟨_, h0, _⟩ | ⟨_, ad, cap, hu, _, _, hst, hcells⟩
        · subst h0; simp at hlt
        have hrun : ∀ w2, (execOp a.eval o).run P w2 = .ok (.value (.pointer (some (ad.add (n.toNat * ie.cks.length))))) w2 := by
          intro w2
          have hsz := hTe.size hke
          cases hif : P.info? e with
          | none => rw [hif] at hsz; simp at hsz
          | some f =>
            rw [hif] at hsz
            simp only [Option.map_some, Option.some.injEq] at hsz
            simp [execOp, ho, Instr.indexAt, hn, asIntOf, run_underlying hd1, hu, hb1, hb2, sizeOf, typeInfo, hif, hsz]
        cases ob with
        | true =>
          rcases hwhere with ⟨p, rfl, hd, hv⟩ | ⟨rfl, _⟩
          · refine ⟨_, _, σ, γ, ow, hrun, h, R, .one _ _ (.pl _ p.steps ⟨n.toNat, 0, ie.cks.length⟩ _ _ rfl hd ⟨(nl, es), by simp [C.asOwn]⟩ ?_)⟩
            have := placeA_append γ w p.r p.k p.steps ⟨n.toNat, 0, ie.cks.length⟩
            rw [this, hv, hu]
            simp
          · cases h
        | false =>
          simp only [hrow, Option.bind_some] at h
          refine ⟨_, _, σ, γ, ow, hrun, h, R, .one _ _ (.rp _ _ (fun j => ((w.cell? ((ad.add (n.toNat * ie.cks.length)).add j)).getD undef)) (fun _ => ?_) (fun j c hj => ?_) (fun j c hj => ?_))⟩
          · rw [add_block]; exact hst rfl (fun e => by subst e; simp at hlt)
          · obtain ⟨v, hv, _⟩ := hcells _ _ j c hrow hj
            rw [add_add, hv]; rfl
          · obtain ⟨v, hv, hr, _⟩ := hcells _ _ j c hrow hj
            rw [add_add, hv]
            exact hr rfl
      · cases h
    · -- an array in a box
      rename_i m e p hkind hsx
      rw [hsx] at hx
      obtain ⟨ie, hie, hke, h⟩ := bound_some h
      have hTe := hE e ie hie
      have hd1 := hT.arrayE hkind
      · obtain ⟨hb1, hb2, h⟩ := pickN_some h
        have hx2 : CellOk σ st γ w (a.eval x) (.pl p) := slot_one hx
        obtain ⟨ad, hv, hc⟩ := place_add (n.toNat * ie.cks.length) hx2
        refine ⟨_, _, σ, γ, ow, fun w2 => ?_, h, R, .one _ _ hc⟩
        have hsz := hTe.size hke
        cases hif : P.info? e with
        | none => rw [hif] at hsz; simp at hsz
        | some f =>
          rw [hif] at hsz
          simp only [Option.map_some, Option.some.injEq] at hsz
          simp [execOp, ho, Instr.indexAt, hn, asIntOf, run_underlying hd1, hv, Instr.sureAddr, hb1, hb2, sizeOf, typeInfo, hif, hsz]
    · -- an array that is only read
      rename_i m e cs hkind hsx
      rw [hsx] at hx
      obtain ⟨ie, hie, hke, h⟩ := bound_some h
      have hTe := hE e ie hie
      have hd1 := hT.arrayE hkind
      · obtain ⟨hb1, hb2, h⟩ := pickN_some h
        have hx2 : CellOk σ st γ w (a.eval x) (.rp cs) := slot_one hx
        obtain ⟨ad, hv, hc⟩ := rp_add (n.toNat * ie.cks.length) hx2
        refine ⟨_, _, σ, γ, ow, fun w2 => ?_, h, R, .one _ _ hc⟩
        have hsz := hTe.size hke
        cases hif : P.info? e with
        | none => rw [hif] at hsz; simp at hsz
        | some f =>
          rw [hif] at hsz
          simp only [Option.map_some, Option.some.injEq] at hsz
          simp [execOp, ho, Instr.indexAt, hn, asIntOf, run_underlying hd1, hv, Instr.sureAddr, hb1, hb2, sizeOf, typeInfo, hif, hsz]
    · cases h
  · cases h
end
end Go.Proofs.Gh
