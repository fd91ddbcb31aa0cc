/- The operations, fourth part: stores and new memory. -/
import Derived.Test.YtmpnmcnjhpekaaaGh12
namespace Go.Proofs.Gh
open Go.RowKit
section
variable {B : Base} {γ : Nat → Bx} {st : Nat → Prop} {ow : Nat → Option Ow} {hand : List (Value × C)} {σ : St} {w : World} {a : Act} {r : Res} {tmps : Array Value}

theorem shapePlain_eq {ck : CK} {c : C} {k : C → Option Res} (hp : ck.plain = true) (h : shapeC ck c k = some r) : ∃ x, c = .v x ∧ k (.v x) = some r := by
  cases ck with
  | int ki => simp only [shapeC, Option.bind_eq_some_iff] at h; obtain ⟨m, hm, h⟩ := h; exact ⟨_, asInt_some hm, h⟩
  | bool => simp only [shapeC, Option.bind_eq_some_iff] at h; obtain ⟨m, hm, h⟩ := h; exact ⟨_, asBool_some hm, h⟩
  | str => simp only [shapeC, Option.bind_eq_some_iff] at h; obtain ⟨m, hm, h⟩ := h; exact ⟨_, asStr_some hm, h⟩
  | sl n => simp [CK.plain] at hp
  | other => simp [CK.plain] at hp
theorem fit_eq {top : Bool} {ck : CK} {c : C} {k : C → Option Res} (h : fitK top ck c k = some r) : k c = some r ∧ (top = true ∨ c.Nests) := by
  cases ck with
  | int ki => obtain ⟨x, rfl, h2⟩ := shapePlain_eq (ck := .int ki) rfl h; exact ⟨h2, .inr (.inr rfl)⟩
  | bool => obtain ⟨x, rfl, h2⟩ := shapePlain_eq (ck := .bool) rfl h; exact ⟨h2, .inr (.inr rfl)⟩
  | str => obtain ⟨x, rfl, h2⟩ := shapePlain_eq (ck := .str) rfl h; exact ⟨h2, .inr (.inr rfl)⟩
  | sl n => simp only [fitK, Option.bind_eq_some_iff] at h; obtain ⟨x, hx, h⟩ := h; exact ⟨h, .inr (.inl hx)⟩
  | other =>
    simp only [fitK] at h
    split at h
    · rename_i ht
      simp only [Bool.or_eq_true] at ht
      exact ⟨h, ht.imp id .inr⟩
    · cases h
theorem pre_length : ∀ {p q : List Step}, pre p q → p.length ≤ q.length
  | [], _, _ => Nat.zero_le _
  | _ :: _, _ :: _, h => by have := pre_length h.2.2; simp; omega
theorem Rel.storeCells {P : Program} {g o : Nat} : ∀ (xs : List (Value × C)) (cks : List CK) (m : Nat) {p : Place} {ow : Nat → Option Ow} {σ : St} {w : World} {k : St → Option Res}, Rel B γ st ow (hand ++ xs) σ tmps w →
    placeA γ w p = some ⟨g, o + m, none⟩ → storeCellsK σ p cks (xs.map (·.2)) k = some r →
    ∃ σ' ow' w', k σ' = some r ∧ Rel B γ st ow' hand σ' tmps w' ∧ (Go.storeCells ⟨g, o, none⟩ (xs.map (·.1)) m).run P w = .ok () w' ∧ cks.length = xs.length ∧ σ'.boxes.length = σ.boxes.length
  | [], cks, m, p, ow, σ, w, k, R, hA, h => by
    cases cks with
    | nil => exact ⟨σ, ow, w, h, by simpa using R, rfl, rfl, rfl⟩
    | cons ck cks => simp [storeCellsK] at h
  | x :: xs, cks, m, p, ow, σ, w, k, R, hA, h => by
    cases cks with
    | nil => simp [storeCellsK] at h
    | cons ck cks =>
      obtain ⟨u, c⟩ := x
      simp only [List.map_cons, storeCellsK, nodeK_eq, Option.bind_eq_some_iff] at h
      obtain ⟨old, hold, h⟩ := h
      have R0 : Rel B γ st ow (hand ++ [(u, c)] ++ xs) σ tmps w := by simpa using R
      obtain ⟨ow1, R1⟩ := R0.rot
      have hm : p.steps ≠ [] ∨ ∃ g o, γ p.r = .mem g o := by
        by_cases hs : p.steps = []
        · right
          unfold placeA at hA
          rw [hs] at hA
          simp only at hA
          cases hg : γ p.r with
          | mem g o => exact ⟨g, o, rfl⟩
          | val vs => rw [hg] at hA; simp at hA
        · exact .inl hs
      -- what comes behind the first store
      have hnext : ∀ {w1 : World} {σ1 : St} {ow2 : Nat → Option Ow}, (∀ q d, σ.nodeC q = some d → ¬ (p.r = q.r ∧ p.k = q.k ∧ pre p.steps q.steps) → placeV γ w1 q = placeV γ w q) → Rel B γ st ow2 (hand ++ xs) σ1 tmps w1 → σ1.boxes.length = σ.boxes.length →
          w1 = w.setCell ⟨g, o + m, none⟩ u → (∃ old, w.cell? ⟨g, o + m, none⟩ = some old) → w.frozen? ⟨g, o + m, none⟩ = false → u.oneCell' = true → storeCellsK σ1 (p.add 1) cks (xs.map (·.2)) k = some r →
          ∃ σ' ow' w', k σ' = some r ∧ Rel B γ st ow' hand σ' tmps w' ∧ (Go.storeCells ⟨g, o, none⟩ (((u, c) :: xs).map (·.1)) m).run P w = .ok () w' ∧ (ck :: cks).length = ((u, c) :: xs).length ∧ σ'.boxes.length = σ.boxes.length := by
        intro w1 σ1 ow2 hpl R2 hbl hw1 hc hfz h1 h
        have hA1 : placeA γ w1 (p.add 1) = some ⟨g, o + (m + 1), none⟩ := by
          obtain ⟨r0, k0, steps⟩ := p
          rcases List.eq_nil_or_concat steps with rfl | ⟨before, s, rfl⟩
          · unfold placeA at hA ⊢
            simp only [Place.add] at hA ⊢
            cases hg : γ r0 with
            | mem g' o' =>
              rw [hg] at hA
              simp only [Option.some.injEq, Addr.mk.injEq, and_true] at hA ⊢
              omega
            | val vs => rw [hg] at hA; simp at hA
          · simp only [List.concat_eq_append] at *
            rw [Place.add_append, placeA_append]
            rw [placeA_append] at hA
            rw [nodeC_append, Option.bind_eq_some_iff] at hold
            obtain ⟨d, hd, _⟩ := hold
            rw [hpl ⟨r0, k0, before⟩ d hd (fun hh => by have := pre_length hh.2.2; simp only [List.length_append, List.length_cons, List.length_nil] at this; omega)]
            cases hv : placeV γ w ⟨r0, k0, before⟩ with
            | none => rw [hv] at hA; simp at hA
            | some v =>
              rw [hv] at hA
              simp only [Option.bind_some] at hA ⊢
              split at hA
              · rename_i ad _ _
                simp only [Option.some.injEq] at hA ⊢
                rw [show s.i * s.sz + (s.j + 1) = s.i * s.sz + s.j + 1 by omega, ← add_add, hA, add_lit]
                rfl
              · cases hA
        obtain ⟨σ', ow', w', h2, R3, hr, hl, hb⟩ := Rel.storeCells xs cks (m + 1) R2 hA1 h
        refine ⟨σ', ow', w', h2, R3, ?_, by simpa using hl, hb.trans hbl⟩
        obtain ⟨old', hc⟩ := hc
        have hst : (Go.store ((⟨g, o, none⟩ : Addr).add m) u).run P w = .ok () w1 := by
          rw [add_lit, run_store P w _ u _ h1, hc]
          simp [hfz, hw1]
        simp only [List.map_cons, Go.storeCells, Sem.run_bind, hst, Result.andThen_ok]
        exact hr
      have hone : u.oneCell' = true := (R1.hands (hand ++ xs).length (u, c) (getElem?_snoc_self _ _)).one
      split at h
      · rename_i hp
        obtain ⟨x0, hox, h2⟩ := shapePlain_eq hp h
        clear h
        subst hox
        obtain ⟨x1, hcx, h⟩ := shapePlain_eq hp h2
        clear h2
        subst hcx
        obtain ⟨g', o', old, hA', hc, hfz, hpl, ow2, R2⟩ := R1.storeV hold hm (.inr (.inr rfl))
        rw [hA] at hA'
        cases hA'
        exact hnext hpl R2 (length_put _ _ _) rfl ⟨old, hc⟩ hfz hone h
      · obtain ⟨h, hn⟩ := fit_eq h
        obtain ⟨g', o', old, hA', hc, hfz, hpl, ow2, R2⟩ := R1.store hold hm (hn.imp (fun h => by simpa using h) id)
        rw [hA] at hA'
        cases hA'
        exact hnext hpl R2 (length_put _ _ _) rfl ⟨old, hc⟩ hfz hone h
/-- The cells of a value that is put into memory. -/
theorem cells_of {us : List Value} {s : S} {u : Value} (h : (∃ c, s = .one c ∧ us = [u]) ∨ (∃ cs, s = .agg cs ∧ u = .agg us.toArray)) (h1 : ∀ x ∈ us, x.oneCell' = true) : u.cells = us.toArray := by
  rcases h with ⟨c, _, rfl⟩ | ⟨cs, _, rfl⟩
  · have := h1 u (by simp)
    cases u <;> first | rfl | simp [Value.oneCell'] at this
  · rfl
theorem hand_one {xs : List (Value × C)} (R : Rel B γ st ow (hand ++ xs) σ tmps w) : ∀ x ∈ xs, x.1.oneCell' = true := fun x hx => by
  obtain ⟨k, hk⟩ := List.getElem?_of_mem hx
  exact (R.hands (hand.length + k) x (by rw [List.getElem?_append_right (by omega)]; simpa using hk)).one
theorem zip_fst {α β : Type} : ∀ (us : List α) (cs : List β), us.length = cs.length → (us.zip cs).map (·.1) = us
  | [], _, _ => rfl
  | _ :: _, [], h => by simp at h
  | u :: us, c :: cs, h => by simp [zip_fst us cs (by simpa using h)]
theorem zip_snd {α β : Type} : ∀ (us : List α) (cs : List β), us.length = cs.length → (us.zip cs).map (·.2) = cs
  | [], [], _ => rfl
  | [], _ :: _, h => by simp at h
  | _ :: _, [], h => by simp at h
  | u :: us, c :: cs, h => by simp [zip_snd us cs (by simpa using h)]
/-- STORE. -/
theorem done_store {P : Program} {E : Env} (hE : EnvTy P E) {o : Oper} {t : TypeId} {x y : Operand} {k : S → St → Option Res} (R : Rel B γ st ow [] σ a.tmps w) (ho : o.op = .store t x y)
    (h : (bound E t fun i => σ.storeK i (σ.view x) (retype E t (σ.view y)) fun σ => k (.one .unk) σ) = some r) : Done P B st a w (execOp a.eval o) k r := by
  obtain ⟨i, hi, hk, h⟩ := bound_some h
  have hT := hE t i hi
  have hx := R.view x
  have hy := slot_retype E t (R.view y)
  unfold St.storeK at h
  split at h
  · cases h
  rename_i htup
  split at h
  · rename_i p hs
    rw [hs] at hx
    obtain ⟨us, hl, hpre, hus⟩ := slot_cells hy (fun ss e => htup (by rw [e]; rfl))
    obtain ⟨cs', σ1, ow1, h1, R1, hl1, hb1⟩ := Rel.takesC (hand := []) _ us R hl (fun i u c hu hc => (hpre i u c hu hc).pre) h
    simp only [List.nil_append] at R1
    have h1cell : ∀ x ∈ us, x.oneCell' = true := fun x hx => by
      have := hand_one (hand := []) (by simpa using R1)
      obtain ⟨j, hj⟩ := List.getElem?_of_mem hx
      have hlt : j < cs'.length := by rw [← hl1]; exact (List.getElem?_eq_some_iff.1 hj).1
      have hz : (us.zip cs')[j]? = some (x, cs'[j]) := by rw [List.getElem?_zip_eq_some]; exact ⟨hj, List.getElem?_eq_getElem hlt⟩
      exact this _ (List.mem_of_getElem? hz)
    have hcl := cells_of hus h1cell
    -- the address
    have hadr : ∃ g o, a.eval x = .pointer (some ⟨g, o, none⟩) ∧ placeA γ w p = some ⟨g, o, none⟩ := by
      generalize a.eval x = u0 at hx
      cases hx with
      | one _ _ hc =>
        cases hc with
        | rep _ _ hr =>
          cases hr with
          | box _ r0 k0 g o0 _ hlt hg => exact ⟨g, o0 + k0, rfl, by simp [placeA, hg]⟩
        | pl _ before s d ad hs2 hd2 hx2 ha =>
          obtain ⟨⟨nl2, es2⟩, hx2⟩ := hx2
          obtain ⟨r0, k0, steps⟩ := p
          simp only at hs2 hd2
          subst hs2
          obtain ⟨_, _, v, Z, kk, _, _, hv, hr, _⟩ := R.node hd2
          have := asOwn_some hx2
          subst this
          rw [placeA_append, hv] at ha
          cases hr with
          | nil => simp at ha
          | own _ g o cap sz _ _ us Xs e cur _ h1 h2 h3 h4 h5 h6 h7 h8 h9 h10 h11 h12 =>
            simp only [Option.bind_some, add_lit, Option.some.injEq] at ha
            subst ha
            exact ⟨g, _, rfl, by rw [placeA_append, hv]; simp [add_lit]⟩
    obtain ⟨g, o0, hev, hA⟩ := hadr
    obtain ⟨σ2, ow2, w2, h2, R2, hr, hlen, _⟩ := Rel.storeCells (P := P) (hand := []) (o := o0) (us.zip cs') i.cks 0 (by simpa using R1) (by simpa using hA) (by rw [zip_snd us cs' hl1]; exact h1)
    rw [zip_fst us cs' hl1] at hr
    refine ⟨undef, .one .unk, σ2, γ, ow2, w2, .inr ⟨?_, rfl⟩, h2, R2, .one _ _ (.unk _)⟩
    have hsz : us.length = i.cks.length := by rw [hlen]; simp [hl1]
    simp only [execOp, ho, Instr.storeAt, hev, Instr.sureAddr, Sem.run_bind, Sem.run_pure, Result.andThen_ok, storeVar, run_sizeOf (hT.size hk), hcl]
    simp [hsz, hr]
  · cases h
/-- NEW: a variable with its zero value. -/
theorem zero_rep {P : Program} {t : TypeId} {i : TI} (hT : TyOk P t i) (hk : ∀ ts, i.kind ≠ .tuple ts) : ∃ f z, P.info? t = some f ∧ f.size = i.cks.length ∧ f.bytes = i.bytes ∧ 0 < f.bytes ∧ f.zero = some z ∧ z.cells.size = f.size ∧ i.zero.length = z.cells.toList.length ∧
    ∀ (n j : Nat) (u : Value) (c : C), z.cells.toList[j]? = some u → i.zero[j]? = some c → Rep st γ w n u c (fun _ => False) := by
  rcases hT.info with ⟨ts, h⟩ | ⟨f, z, h1, h2, h3, h4, h5, h6, h7, h8⟩
  · exact absurd h (hk ts)
  refine ⟨f, z, h1, h2, h3, h4, h5, h6, ?_, ?_⟩
  · rw [h8]
    simp only [List.length_map, List.length_zip, Array.length_toList, h6, h2]
    omega
  · intro n j u c hu hc
    rw [h8, List.getElem?_map] at hc
    cases hz : (i.cks.zip z.cells.toList)[j]? with
    | none => rw [hz] at hc; simp at hc
    | some q =>
      rw [hz] at hc
      simp only [Option.map_some, Option.some.injEq] at hc
      subst hc
      have hz2 := (List.getElem?_zip_eq_some.1 hz).2
      have hq : q.2 = u := Option.some.inj (hz2.symm.trans hu)
      have ho : u.oneCell' = true := List.all_eq_true.1 h7 u (List.mem_of_getElem? hu)
      rw [hq]
      unfold zeroC
      split
      · exact .nil _ _ _ _ _ (by simp)
      · exact rep_const _ _ ho
theorem done_alloc {P : Program} {E : Env} (hE : EnvTy P E) {o : Oper} {t : TypeId} {k : S → St → Option Res} (R : Rel B γ st ow [] σ a.tmps w) (ho : o.op = .alloc t)
    (h : (bound E t fun i => k (.one (.pl ⟨σ.boxes.length, 0, []⟩)) (σ.new false i.zero)) = some r) : DoneE P B st a w (execOp a.eval o) k r := by
  obtain ⟨i, hi, hk, h⟩ := bound_some h
  have hT := hE t i hi
  obtain ⟨f, z, h1, h2, h3, _, h5, h6, h7, h8⟩ := zero_rep (st := st) (γ := γ) (w := w) hT hk
  obtain ⟨ow1, R1⟩ := R.takes0 (hs := z.cells.toList.zip i.zero) (fun x hx => by
    obtain ⟨j, hj⟩ := List.getElem?_of_mem hx
    rw [List.getElem?_zip_eq_some] at hj
    exact h8 _ j _ _ hj.1 hj.2)
  obtain ⟨γ', ow2, R2, hc⟩ := R1.newMem (hand := []) t
  rw [zip_fst _ _ h7.symm, zip_snd _ _ h7.symm] at R2 hc
  refine ⟨_, _, _, γ', ow2, _, ?_, ext_alloc _ _, h, R2, .one _ _ hc⟩
  simp [execOp, ho, Instr.alloc, zeroValue, typeInfo, h1, h5, newVar, newRow]
theorem box_of {σ : St} {st : Nat → Prop} {γ : Nat → Bx} {w : World} {ad : Addr} {p : Place} (h : CellOk σ st γ w (.pointer (some ad)) (.pl p)) (hs : p.steps = []) : ∃ g o, p.r < σ.boxes.length ∧ γ p.r = .mem g o ∧ ad = ⟨g, o + p.k, none⟩ := by
  generalize hu : Value.pointer (some ad) = u at h
  cases h with
  | rep _ _ hr => cases hr with
    | box _ r k g o _ h1 h2 => cases hu; exact ⟨g, o, h1, h2, rfl⟩
  | pl _ before s d ad hs' => rw [hs] at hs'; simp at hs'
theorem CellOk.calm (R : Rel B γ st ow hand σ tmps w) {u : Value} {c : C} (h : CellOk σ st γ w u c) (hc : c.paOk = true) : Rep st γ w σ.boxes.length u c.calm (fun _ => False) := by
  cases c with
  | v x => cases h with
    | rep _ _ h => exact h
  | al p =>
    obtain ⟨d, h1, _, h3⟩ := cell_al h
    obtain ⟨_, _, v, Z, k, _, _, hv, hr, _⟩ := R.node h1
    rw [h3] at hv
    cases hv
    exact .unk _ _ _ hr.one
  | _ => simp [C.paOk] at hc
theorem done_boxPa {P : Program} {o : Oper} {t : TypeId} {x : Operand} {k : S → St → Option Res} (R : Rel B γ st ow [] σ a.tmps w) (ho : o.op = .box t x) (htup : ¬ (σ.view x).isTup = true) (hall : (σ.view x).cells.all C.paOk = true)
    (h : k (.one (.pa σ.boxes.length 0 ((σ.view x).cells.map C.pp))) (σ.new false ((σ.view x).cells.map C.calm)) = some r) : DoneE P B st a w (execOp a.eval o) k r := by
  obtain ⟨us, hl, hpre, hus⟩ := slot_cells (R.view x) (fun ss e => htup (by rw [e]; rfl))
  have hll : us.length = ((σ.view x).cells.map C.calm).length := by simpa using hl
  obtain ⟨ow1, R1⟩ := R.takes0 (hs := us.zip ((σ.view x).cells.map C.calm)) (fun y hy => by
    obtain ⟨j, hj⟩ := List.getElem?_of_mem hy
    rw [List.getElem?_zip_eq_some, List.getElem?_map] at hj
    obtain ⟨h1, h2⟩ := hj
    cases hc : (σ.view x).cells[j]? with
    | none => rw [hc] at h2; simp at h2
    | some c =>
      rw [hc] at h2
      simp only [Option.map_some, Option.some.injEq] at h2
      rw [← h2]
      exact (hpre j _ c h1 hc).calm R (List.all_eq_true.1 hall c (List.mem_of_getElem? hc)))
  have h1cell : ∀ y ∈ us, y.oneCell' = true := fun y hy => by
    have := hand_one (hand := []) (by simpa using R1)
    obtain ⟨j, hj⟩ := List.getElem?_of_mem hy
    have hlt : j < ((σ.view x).cells.map C.calm).length := by rw [← hll]; exact (List.getElem?_eq_some_iff.1 hj).1
    have hz : (us.zip ((σ.view x).cells.map C.calm))[j]? = some (y, ((σ.view x).cells.map C.calm)[j]) := by rw [List.getElem?_zip_eq_some]; exact ⟨hj, List.getElem?_eq_getElem hlt⟩
    exact this _ (List.mem_of_getElem? hz)
  have hcl := cells_of hus h1cell
  obtain ⟨γ', ow2, R2, hc⟩ := R1.newMem (hand := []) (hs := us.zip ((σ.view x).cells.map C.calm)) t
  rw [zip_fst _ _ hll, zip_snd _ _ hll] at R2 hc
  obtain ⟨g, o0, hlt, hg, he⟩ := box_of hc rfl
  simp only [Addr.mk.injEq, Nat.add_zero, and_true] at he
  obtain ⟨rfl, rfl⟩ := he
  have hnew : ∀ (j : Nat) (u : Value), us[j]? = some u → cellV γ' (w.alloc (.cells us.toArray t)) σ.boxes.length j = some u := fun j u hu => by
    have hg' : γ' σ.boxes.length = .mem w.heap.size 0 := hg
    simp only [cellV, hg']
    rw [cell_of_row _ w.heap.size _ _ t (0, 0) (heap_alloc_new w _)]
    simpa using hu
  have hold : ∀ (j : Nat) (u : Value) (c : C), us[j]? = some u → (σ.view x).cells[j]? = some c → CellOk (σ.new false ((σ.view x).cells.map C.calm)) st γ' (w.alloc (.cells us.toArray t)) u c := by
    have hv2 : SlotOk (σ.new false ((σ.view x).cells.map C.calm)) st γ' (w.alloc (.cells us.toArray t)) (a.eval x) (σ.view x) := R2.view x
    generalize σ.new false ((σ.view x).cells.map C.calm) = σ2 at hv2 ⊢
    intro j u c hu hcj
    rcases hus with ⟨c0, hs, hu0⟩ | ⟨cs, hs, hu0⟩
    · rw [hs] at hcj
      rw [hs] at hv2
      rw [hu0] at hu
      cases j with
      | zero =>
        simp only [S.cells, List.getElem?_cons_zero, Option.some.injEq] at hcj hu
        subst hcj hu
        generalize a.eval x = v at hv2
        cases hv2 with
        | one _ _ h => exact h
      | succ j => simp at hu
    · rw [hs] at hcj
      rw [hs, hu0] at hv2
      generalize hq : Value.agg us.toArray = q at hv2
      cases hv2 with
      | agg us2 _ hl2 h2 =>
        simp only [Value.agg.injEq] at hq
        have : us = us2 := by simpa using congrArg Array.toList hq
        subst this
        exact h2 j u c hu hcj
  refine ⟨_, _, _, γ', ow2, _, ?_, ext_alloc _ _, h, R2, .one _ _ (.pa σ.boxes.length 0 w.heap.size 0 _ (fun j => us.getD j .nilIface) hlt hg (fun j p hj => ?_) (fun j p hj => ?_))⟩
  · simp [execOp, ho, Instr.box, hcl, newVar, newRow]
  all_goals
    rw [List.getElem?_map] at hj
    cases hcj : (σ.view x).cells[j]? with
    | none => rw [hcj] at hj; simp at hj
    | some c =>
      rw [hcj] at hj
      simp only [Option.map_some, Option.some.injEq] at hj
      have hjl : j < us.length := by rw [hl]; exact (List.getElem?_eq_some_iff.1 hcj).1
      have hu : us[j]? = some (us.getD j .nilIface) := by simp [List.getD, hjl]
      have hcp : c = .al p := by
        cases c <;> simp [C.pp] at hj
        rw [hj]
      subst hcp
      first
      | exact hold j _ _ hu hcj
      | (refine .al _ _ .unk ?_ (by simp) ?_
         · simp [St.nodeC, root_new, hcj, C.calm, walkC]
         · simp only [placeV, walkV, Nat.zero_add, hnew j _ hu, Option.bind_some])
theorem done_box {P : Program} {E : Env} {o : Oper} {t : TypeId} {x : Operand} {k : S → St → Option Res} (R : Rel B γ st ow [] σ a.tmps w) (ho : o.op = .box t x)
    (h : (if (σ.view x).isTup then none else bif E.pas then (if (σ.view x).cells.all C.paOk then k (.one (.pa σ.boxes.length 0 ((σ.view x).cells.map C.pp))) (σ.new false ((σ.view x).cells.map C.calm)) else none)
      else takesK σ (σ.view x).cells fun cs σ => k (.one (.pl ⟨σ.boxes.length, 0, []⟩)) (σ.new false cs)) = some r) : DoneE P B st a w (execOp a.eval o) k r := by
  split at h
  · cases h
  rename_i htup
  cases hpas : E.pas with
  | true =>
    rw [hpas, cond_true] at h
    split at h
    · exact done_boxPa R ho htup ‹_› h
    · cases h
  | false =>
  rw [hpas, cond_false] at h
  obtain ⟨us, hl, hpre, hus⟩ := slot_cells (R.view x) (fun ss e => htup (by rw [e]; rfl))
  obtain ⟨cs', σ1, ow1, h1, R1, hl1, hb1⟩ := Rel.takesC (hand := []) _ us R hl (fun i u c hu hc => (hpre i u c hu hc).pre) h
  simp only [List.nil_append] at R1
  have h1cell : ∀ x ∈ us, x.oneCell' = true := fun x hx => by
    have := hand_one (hand := []) (by simpa using R1)
    obtain ⟨j, hj⟩ := List.getElem?_of_mem hx
    have hlt : j < cs'.length := by rw [← hl1]; exact (List.getElem?_eq_some_iff.1 hj).1
    have hz : (us.zip cs')[j]? = some (x, cs'[j]) := by rw [List.getElem?_zip_eq_some]; exact ⟨hj, List.getElem?_eq_getElem hlt⟩
    exact this _ (List.mem_of_getElem? hz)
  have hcl := cells_of hus h1cell
  obtain ⟨γ', ow2, R2, hc⟩ := R1.newMem (hand := []) (hs := us.zip cs') t
  rw [zip_fst _ _ hl1, zip_snd _ _ hl1] at R2 hc
  refine ⟨_, _, _, γ', ow2, _, ?_, ext_alloc _ _, h1, R2, .one _ _ hc⟩
  simp [execOp, ho, Instr.box, hcl, newVar, newRow]
end
end Go.Proofs.Gh
