/- A call, whole. -/
import Derived.Test.YtmpnmcnjhpekaaaGh35
set_option linter.unusedSimpArgs false
namespace Go.Proofs.Gh
open Go.RowKit
section
variable {P : Program} {E : Env} {B : Base} {γ : Nat → Bx} {st : Nat → Prop} {ow : Nat → Option Ow} {σ : St} {w : World} {r : Res} {tmps : Array Value}

/-- What is told of the functions that are called. -/
def EnvSpec (P : Program) (E : Env) : Prop := ∀ f sp, E.spec f = some sp → SpecOk P f sp ∧ ∃ fn, P.funcs[f]? = some fn ∧ fn.body.isNone = false ∧ (fn.name == "runtime.NumGoroutine") = false
theorem asCur_some {n : Nat} {c : C} {x : Option Bool × List (List C) × Int × Int} (h : c.asCur n = some x) : c = .bx [.sl false x.1 n x.2.1, .v (.int .i64 x.2.2.1), .v (.int .i64 x.2.2.2)] := by
  unfold C.asCur at h
  split at h
  · split at h
    · rename_i e; subst e; cases h; rfl
    · cases h
  · cases h
theorem shapeOut_id {ok : OutK} {s : S} {k : S → Option Res} (h : shapeOut ok s k = some r) : k s = some r := by
  unfold shapeOut at h
  split at h
  · exact h
  · simp only [Option.bind_eq_some_iff] at h
    obtain ⟨c, hc, d, hd, h⟩ := h
    rw [← asOwn_some hd] at h
    unfold S.one? at hc
    split at hc
    · cases hc; exact h
    · cases hc
  · simp only [Option.bind_eq_some_iff] at h
    obtain ⟨cs, hc, h⟩ := h
    split at h
    · rename_i hl
      have := shapeRes_id _ _ hl h
      unfold S.bx? at hc
      split at hc
      · cases hc; exact this
      · cases hc
    · cases h
  · simp only [Option.bind_eq_some_iff] at h
    obtain ⟨cs, hc, h⟩ := h
    split at h
    · rename_i hl
      have := shapeRes_id _ _ hl h
      unfold S.agg? at hc
      split at hc
      · cases hc; exact this
      · cases hc
    · cases h
  · exact h
  · simp only [Option.bind_eq_some_iff] at h
    obtain ⟨c, hc, x, hx, h⟩ := h
    rw [← asCur_some hx] at h
    unfold S.one? at hc
    split at hc
    · cases hc; exact h
    · cases hc
theorem shapeOuts_id : ∀ (ks : List OutK) (os : List S) {k : List S → Option Res}, shapeOuts ks os k = some r → k os = some r
  | [], os, k, h => h
  | ok :: ks, os, k, h => by
    simp only [shapeOuts, Option.bind_eq_some_iff] at h
    obtain ⟨s, hs, h⟩ := h
    have h2 := shapeOuts_id ks _ (shapeOut_id h)
    cases os with
    | nil => simp at hs
    | cons s' os => simp at hs; subst hs; exact h2
theorem imports_ro {σ1 : St} : ∀ (ms : List Mode) (xs os : List S) {σ : St} {k : St → Option Res}, ms.all Mode.isRo = true → importsK σ1 σ ms xs os k = k σ
  | [], xs, os, σ, k, _ => by simp [importsK]
  | m :: ms, [], os, σ, k, h => by
    simp only [List.all_cons, Bool.and_eq_true] at h
    cases m <;> simp [Mode.isRo] at h <;> simp [importsK]
  | m :: ms, x :: xs, os, σ, k, h => by
    simp only [List.all_cons, Bool.and_eq_true] at h
    cases m with
    | ro => simp only [importsK]; exact imports_ro ms xs os.tail h.2
    | _ => simp [Mode.isRo] at h
/-- A result that comes home as it is. -/
theorem homeRes_old {st : Nat → Prop} {γ : Nat → Bx} {ow : Nat → Option Ow} {hand : List (Value × C)} {strict : Bool} {oks : List OutK} {v : Value} {s : S} {k : S → St → Option Res} (hr : ResultIs v s hand) (R : Rel B γ st ow hand σ tmps w) (h : σ.homeRes strict oks s k = some r) : σ.homeS s k = some r := by
  have hno : ∀ {n : Nat} {u : Value} {c : C} {x}, (∃ i, hand[i]? = some (u, c)) → c.asCur n = some x → False := fun {n u c x} ⟨i, hi⟩ hx =>
    (R.hands i _ hi).notBx _ (asCur_some hx)
  unfold St.homeRes at h
  split at h
  · split at h
    · rw [Option.bind_eq_some_iff] at h
      obtain ⟨x, hx, _⟩ := h
      cases hr with
      | one h1 => cases h1 with
        | one u c => exact (hno ⟨0, rfl⟩ hx).elim
    · rw [Option.bind_eq_some_iff] at h
      obtain ⟨x, hx, _⟩ := h
      cases hr with
      | one h1 => cases h1
      | tup h1 => cases h1 with
        | cons h2 h3 => cases h2 with
          | one u c => exact (hno ⟨0, rfl⟩ hx).elim
    · cases h
  · cases strict with
    | false => exact h
    | true =>
      simp only [cond_true] at h
      cases hn : s.noBx with
      | true => rw [hn] at h; exact h
      | false => rw [hn] at h; cases h
/-- A result that begins with a new box. -/
theorem homeRes_new {st : Nat → Prop} {γ : Nat → Bx} {γ3 : Nat → Bx} {bs' : List Box} {keeps : Bool} {hs : List (Value × C)} {oks : List OutK} {v : Value} {s : S} {k : S → St → Option Res} (hr : ResultNew γ3 bs' keeps v s hs)
    (hR : ∀ u c, NewBox γ3 bs' keeps u c → ∃ (g o : Nat) (us : List Value) (ow' : Nat → Option Ow) (cs : List C), c = .bx cs ∧ u = .pointer (some ⟨g, o, none⟩) ∧ us.length = cs.length ∧ Rel B γ st ow' (hs ++ us.zip cs) σ tmps w ∧ ow' g = none ∧ g < w.heap.size ∧ ¬ st g ∧ (∀ (k : Nat) (x : Value × C), (us.zip cs)[k]? = some x → w.cell? ⟨g, o + k, none⟩ = some x.1) ∧
      (∀ k, k < (us.zip cs).length → w.frozen? ⟨g, o + k, none⟩ = false ∧ (g < B.w.heap.size → B.Y g (o + k)))) (h : σ.homeRes true oks s k = some r) :
    ∃ s' σ' γ' ow', k s' σ' = some r ∧ Rel B γ' st ow' [] σ' tmps w ∧ SlotOk σ' st γ' w v s' := by
  have key : ∀ {u : Value} {c : C} {n : Nat} {x : Option Bool × List (List C) × Int × Int}, NewBox γ3 bs' keeps u c → c.asCur n = some x →
      ∃ γ' ow', Rel B γ' st ow' hs (σ.new false [.sl false x.1 n x.2.1, .v (.int .i64 x.2.2.1), .v (.int .i64 x.2.2.2)]) tmps w ∧
        SlotOk (σ.new false [.sl false x.1 n x.2.1, .v (.int .i64 x.2.2.1), .v (.int .i64 x.2.2.2)]) st γ' w u (.one (.pl ⟨σ.boxes.length, 0, []⟩)) := fun {u c n x} hb hx => by
    obtain ⟨g, o, us, ow', cs, e1, e2, hl, R, h1, h2, h3, h4, h5⟩ := hR u c hb
    have hcs := asCur_some hx
    rw [e1] at hcs
    have hcs' : cs = [.sl false x.1 n x.2.1, .v (.int .i64 x.2.2.1), .v (.int .i64 x.2.2.2)] := by simpa using hcs
    obtain ⟨ow2, R2, _⟩ := R.newBox false (.mem g o) (.inr ⟨g, o, rfl, rfl, h1, h2, h3, h4, h5⟩) (fun i x hx => (R.pin i x hx).1)
    rw [zip_snd us cs hl, hcs'] at R2
    refine ⟨_, ow2, R2, ?_⟩
    subst e2
    have := Rep.box (st := st) (γ := fun r => if r = σ.boxes.length then Bx.mem g o else γ r) (w := w) (σ.new false [.sl false x.1 n x.2.1, .v (.int .i64 x.2.2.1), .v (.int .i64 x.2.2.2)]).boxes.length σ.boxes.length 0 g o (fun _ => False) (by simp [St.new]) (by simp)
    exact .one _ _ (.rep _ _ this)
  unfold St.homeRes at h
  split at h
  · split at h
    · rw [Option.bind_eq_some_iff] at h
      obtain ⟨x, hx, h⟩ := h
      cases hr with
      | one hb =>
        obtain ⟨γ', ow', R, hs'⟩ := key hb hx
        exact ⟨_, _, γ', ow', h, R, hs'⟩
    · rw [Option.bind_eq_some_iff] at h
      obtain ⟨x, hx, h⟩ := h
      cases hr with
      | tup hb hall =>
        obtain ⟨γ', ow', R, hs'⟩ := key hb hx
        obtain ⟨ss', σ2, γ2, ow2, h2, R2, hl2, hs2, hk2⟩ := homeAll hall (hand := []) (by simpa using R) h
        refine ⟨_, _, γ2, ow2, h2, R2, .tup _ _ (by simpa using hl2) fun i u s hu hs => ?_⟩
        cases i with
        | zero => simp only [List.getElem?_cons_zero, Option.some.injEq] at hu hs; subst hu hs; exact hk2 _ _ hs'
        | succ i => exact hs2 i u s (by simpa using hu) (by simpa using hs)
    · cases h
  · simp only [cond_true] at h
    cases hr with
    | one hb => obtain ⟨_, _, _, _, _, rfl, _⟩ := hb; simp [S.noBx] at h
    | tup hb _ => obtain ⟨_, _, _, _, _, rfl, _⟩ := hb; simp [S.noBx] at h
theorem backs_allRo {val : Nat → Nat → List Value} : ∀ (ms : List Mode) (zs : List S) (bs : List Box) (j : Nat), ms.all Mode.isRo = true → backs val ms zs bs j = []
  | [], zs, bs, j, _ => by simp [backs]
  | m :: ms, [], bs, j, h => by cases m <;> simp [backs]
  | m :: ms, z :: zs, bs, j, h => by
    simp only [List.all_cons, Bool.and_eq_true] at h
    cases m with
    | ro => rw [backs_ro]; exact backs_allRo ms zs bs j h.2
    | _ => simp [Mode.isRo] at h
theorem callK_ok (hS : EnvSpec P E) {f : FuncId} {xs : List S} {us : List Value} {t : TypeId} {k : S → St → Option Res} (R : Rel B γ st ow [] σ tmps w) (hl : us.length = xs.length)
    (hs : ∀ (i : Nat) (u : Value) (x : S), us[i]? = some u → xs[i]? = some x → SlotOk σ st γ w u x) (h : σ.callK E f xs t k = some r) {K : Ending → World → Prop}
    (hn : ∀ v s σ' γ' ow' w', ((∃ sp, E.spec f = some sp ∧ sp.modes.all Mode.isRo = true) → Ext w w') → k s σ' = some r → Rel B γ' st ow' [] σ' tmps w' → SlotOk σ' st γ' w' v s → K (.returned v) w') : Calls P f us.toArray w K := by
  unfold St.callK at h
  split at h
  · rename_i sp hsp
    obtain ⟨hok, _⟩ := hS f sp hsp
    obtain ⟨zs, ys, σ1, ow1, H, γ2, ow2, h1, R1, hL, hB, hml, hsh, hA, R2, hlen, hWr⟩ := callStart R hl hs h
    rw [Option.bind_eq_some_iff] at h1
    obtain ⟨res, hrun, h2⟩ := h1
    replace h2 := shapeOuts_id _ _ h2
    refine (hok _ γ2 ow2 us zs res R2 hml hrun).mono fun e w' hpost => ?_
    obtain ⟨v, hand, γ3, ow3, bs', he, hres, R3, hout, hlh, hlo, hln⟩ := hpost
    subst he
    rw [hout] at hlo hln h2
    rcases hres with hres | ⟨hst, hnew⟩
    rotate_left
    · rw [hst] at h2
      simp only [Bool.and_eq_true] at hst
      have hro := hst.2
      rw [imports_ro _ _ _ hro] at h2
      have h3 := shapeS_id h2
      have hbx := boxesOf_ro sp.modes xs hro
      have h5 : ∃ s' σ' γ' ow', k s' σ' = some r ∧ Rel B γ' st ow' [] σ' tmps w' ∧ SlotOk σ' st γ' w' v s' := by
        refine homeRes_new (γ := γ) (w := w') hnew (fun u c hb => ?_) h3
        obtain ⟨r0, b, g, o, e1, e2, hb1, hb2, hb3, hg, hall⟩ := hb
        obtain ⟨_, how, hmem⟩ := R3.mem r0 b g o hb1 hg
        have hpos : 0 < b.cs.length := List.length_pos_iff.2 hb3
        have hge : w.heap.size ≤ g := Nat.le_of_not_lt fun hlt => hWr hro g (o + 0) ((hmem 0 hpos).2 hlt)
        have ho1 : ow1 g = none := by
          cases ho : ow1 g with
          | none => rfl
          | some z => have := R1.lt g z ho; omega
        have hcell : ∀ (q : Nat) (c : C), b.cs[q]? = some c → ∃ u, cellV γ3 w' r0 q = some u ∧ Rep (stays sp.keeps (boxesOf sp.modes xs) st ow1) γ3 w' bs'.length u c (fun b => ow3 b = some (.cell r0 q)) := fun q c hc =>
          R3.cells r0 q c (by unfold St.root; rw [hb1]; exact hc)
        have hzip : ∀ (q : Nat) (x : Value × C), ((valsOf γ3 w' r0 b.cs.length).zip b.cs)[q]? = some x → b.cs[q]? = some x.2 ∧ cellV γ3 w' r0 q = some x.1 ∧ Rep (stays sp.keeps (boxesOf sp.modes xs) st ow1) γ3 w' bs'.length x.1 x.2 (fun b => ow3 b = some (.cell r0 q)) := fun q x hx => by
          obtain ⟨hx1, hx2⟩ := zip_cell hx
          obtain ⟨u, hu, hr⟩ := hcell q x.2 hx2
          have := valsOf_get hx1 hu
          rw [this]
          exact ⟨hx2, hu, hr⟩
        have R3' := R3.addFree ((valsOf γ3 w' r0 b.cs.length).zip b.cs) (fun x hx => by
          obtain ⟨q, hq⟩ := List.getElem?_of_mem hx
          obtain ⟨h1, _, h2⟩ := hzip q x hq
          exact h2.noown (hall _ (List.mem_of_getElem? h1)).2)
        obtain ⟨⟨ow4, R4, how4⟩, _⟩ := R1.merge (B' := ⟨w, writes ow1 γ σ1 (boxesOf sp.modes xs), stays sp.keeps (boxesOf sp.modes xs) st ow1, fun i => (bxsOf sp.modes zs us)[i]?⟩) (boxesOf sp.modes xs) rfl (fun b o h => h) (fun b hb => .inl hb) R3'
          (fun i x hx => by
            by_cases hi : i < hand.length
            · rw [List.getElem?_append_left hi] at hx
              exact (R3.hands i x hx).left (hlh x (List.mem_of_getElem? hx))
            · rw [List.getElem?_append_right (by omega)] at hx
              obtain ⟨h1, _, h2⟩ := hzip _ x hx
              exact ((h2.noown (hall _ (List.mem_of_getElem? h1)).2).left (hall _ (List.mem_of_getElem? h1)).1).mono fun b hb => hb.elim)
          (back := []) (idx := fun _ _ => none) (fun i x hx => by simp at hx) (fun i hi => by rw [hbx] at hi; cases hi)
        refine ⟨g, o, valsOf γ3 w' r0 b.cs.length, ow4, b.cs, e2, e1, valsOf_len _ _, by simpa using R4, how4 g r0 ho1 how, R3.lt g _ how, fun hs => ?_, fun q x hx => ?_, fun q hq => ?_⟩
        · have := (R1.stlt g hs).1; omega
        · obtain ⟨_, h1, _⟩ := hzip q x hx
          simpa [cellV, hg] using h1
        · refine ⟨(hmem q ?_).1, fun hlt => ?_⟩
          · simp only [List.length_zip] at hq; omega
          · have := R1.chg.size; omega
      obtain ⟨s', σ3, γ4, ow6, h4, R6, hs6⟩ := h5
      exact hn v s' σ3 γ4 ow6 w' (fun ⟨sp', h1, h2⟩ b hb => by rw [hsp] at h1; cases h1; exact R3.chg.same b hb (hWr h2 b)) h4 R6 hs6
    have hcv : ∀ (i q : Nat) (b : Box) (c : C), bs'[i]? = some b → b.cs[q]? = some c → ∃ u, cellV γ3 w' i q = some u ∧ Rep (stays sp.keeps (boxesOf sp.modes xs) st ow1) γ3 w' bs'.length u c (fun b => ow3 b = some (.cell i q)) := fun i q b c hb hc =>
      R3.cells i q c (by unfold St.root; rw [hb]; exact hc)
    have hpin : ∀ (i : Nat) (x : Bx), (bxsOf sp.modes zs us)[i]? = some x → i < bs'.length ∧ γ3 i = x := fun i x hx => R3.pin i x hx
    have hbl : (bxsOf sp.modes zs us).length ≤ bs'.length := by
      by_cases h0 : (bxsOf sp.modes zs us).length = 0
      · omega
      · have := (hpin ((bxsOf sp.modes zs us).length - 1) _ (List.getElem?_eq_getElem (by omega))).1
        omega
    obtain ⟨⟨ow4, R4, _⟩, hplace⟩ := R1.merge (B' := ⟨w, writes ow1 γ σ1 (boxesOf sp.modes xs), stays sp.keeps (boxesOf sp.modes xs) st ow1, fun i => (bxsOf sp.modes zs us)[i]?⟩) (boxesOf sp.modes xs) rfl (fun b o h => h) (fun b hb => .inl hb) R3
      (fun i x hx => (R3.hands i x hx).left (hlh x (List.mem_of_getElem? hx)))
      (back := (backs (valsOf γ3 w') sp.modes zs bs' 0).flatten) (idx := fun j q => some (((backs (valsOf γ3 w') sp.modes zs bs' 0).take j).flatten.length + q))
      (fun i x hx => by
        obtain ⟨j, q, row, e1, e2, e3⟩ := flatten_idx _ i x hx
        obtain ⟨b, hb, hc, hv, hlv⟩ := backs_get (keeps := sp.keeps) sp.modes zs bs' 0 j row e1 hlo (fun i q b c hb hc => by
          obtain ⟨u, _, hr⟩ := hcv i q b c hb hc
          exact hr.notBx) q x e2
        obtain ⟨u, hu, hr⟩ := hcv j q b x.2 hb hc
        have hux := valsOf_get hv (by rw [Nat.zero_add]; exact hu)
        exact ⟨j, q, by rw [e3], by rw [hux]; exact hr.left hlv⟩)
      (fun i hi => by
        obtain ⟨g, o, q, bx', b0, e1, e2, e3, e4, e5⟩ := lent_find (γ3 := γ3) hL (j := 0) hsh hbl (fun i x hx => by rw [Nat.zero_add]; exact (hpin i x hx).2) hln i hi
        obtain ⟨b, hb1, hb2⟩ := hB.gone i hi
        rw [e4] at hb1; cases hb1
        refine ⟨_, hb2, fun k c hc => ?_, g, o, q, bx', e1, by simpa using e2, e3, by simpa using e5⟩
        simp only [List.getElem?_map] at hc
        cases hq : b0.cs[k]? with
        | none => rw [hq] at hc; simp at hc
        | some d => rw [hq] at hc; simpa using hc.symm)
    obtain ⟨σ2, ow5, h3, R5⟩ := imports_ok (γ3 := γ3) (j := 0) hL hplace hsh hbl (fun i x hx => by rw [Nat.zero_add]; exact (hpin i x hx).2) (fun i q b c hb hc => by
      obtain ⟨u, hu, _⟩ := hcv i q b c hb hc
      exact ⟨u, by rw [Nat.zero_add]; exact hu⟩) R4 h2
    obtain ⟨s', σ3, γ4, ow6, h4, R6, hs6⟩ := homeResult hres (hand := []) (by simpa using R5) (homeRes_old hres R5 (shapeS_id h3))
    exact hn v s' σ3 γ4 ow6 w' (fun ⟨sp', h1, h2⟩ b hb => by rw [hsp] at h1; cases h1; exact R3.chg.same b hb (hWr h2 b)) h4 R6 hs6
  · cases h
end
end Go.Proofs.Gh
