/- The operations, eighth part: slices that are made, function values. -/
import Derived.Test.YtmpnmcnjhpekaaaGh16
set_option linter.unusedSimpArgs false
namespace Go.Proofs.Gh
open Go.RowKit
section
variable {B : Base} {γ : Nat → Bx} {st : Nat → Prop} {ow : Nat → Option Ow} {hand : List (Value × C)} {σ : St} {w : World} {a : Act} {r : Res} {tmps : Array Value}

theorem Rel.homeOwn {v : Value} {c : C} (R : Rel B γ st ow (hand ++ [(v, c)]) σ tmps w) (hc : ∀ x, c ≠ .v x) : ∃ γ' ow', Rel B γ' st ow' hand (σ.new true [c]) tmps w ∧ CellOk (σ.new true [c]) st γ' w v (.al ⟨σ.boxes.length, 0, []⟩) := by
  obtain ⟨γ', ow', R', h, _⟩ := R.newFree hc
  exact ⟨γ', ow', R', h⟩
theorem done_makeSlice {P : Program} {E : Env} (hE : EnvTy P E) {o : Oper} {t : TypeId} {x y : Operand} {k : S → St → Option Res} (R : Rel B γ st ow [] σ a.tmps w) (ho : o.op = .makeSlice t x y)
    (h : (bound E t fun i => match i.kind, σ.view x, σ.view y with
      | .slice e, .one (.v (.int .i64 n)), .one (.v (.int .i64 c)) => bound E e fun ie => if 0 ≤ n ∧ n ≤ c ∧ c * ie.bytes ≤ (LIM : Int) ∧ 0 < ie.cks.length then
          k (.one (.al ⟨σ.boxes.length, 0, []⟩)) (σ.new true [.sl true (some false) ie.cks.length (List.replicate n.toNat (ie.zero.map C.weak))]) else none
      | _, _, _ => none) = some r) : DoneE P B st a w (execOp a.eval o) k r := by
  obtain ⟨i, hi, hk, h⟩ := bound_some h
  have hT := hE t i hi
  have hx := R.view x
  have hy := R.view y
  split at h
  · rename_i e n c hkind hs1 hs2
    rw [hs1] at hx; rw [hs2] at hy
    have e1 := slot_v hx
    have e2 := slot_v hy
    obtain ⟨ie, hie, hke, h⟩ := bound_some h
    have hTe := hE e ie hie
    obtain ⟨_, hd, _⟩ := hT.sliceE hkind
    split at h
    · rename_i hb
      obtain ⟨hb1, hb2, hb3, hb4⟩ := hb
      obtain ⟨f, z, h1, h2, h3, h4, h5, h6, h7, h8⟩ := zero_rep (st := st) (γ := γ) (w := w) hTe hke
      have hby : (f.bytes : Int) * c ≤ 140737488355328 := by rw [h3, Int.mul_comm]; exact hb3
      have hc63 : c ≤ 140737488355328 := by
        have : (1 : Int) * c ≤ (f.bytes : Int) * c := Int.mul_le_mul_of_nonneg_right (by omega) (by omega)
        omega
      have hr := run_make (P := P) w t e f z hd h1 h5 .i64 .i64 n c hb1 hb2 (by omega) (by omega)
      obtain ⟨zw, hzw⟩ : ∃ zw, zw = ie.zero.map C.weak := ⟨_, rfl⟩
      rw [← hzw] at h
      replace h7 : zw.length = z.cells.toList.length := by rw [hzw, List.length_map]; exact h7
      replace h8 : ∀ (n j : Nat) (u : Value) (c : C), z.cells.toList[j]? = some u → zw[j]? = some c → Rep st γ w n u c (fun _ => False) := fun n j u c hu hc => by
        rw [hzw, List.getElem?_map, Option.map_eq_some_iff] at hc
        obtain ⟨c0, hc0, rfl⟩ := hc
        exact (h8 n j u c0 hu hc0).weak
      -- the zero cells, in the hand
      have hzl : zw.length = ie.cks.length := by rw [h7]; simp [h6, h2]
      have hzc : ∀ j, j < ie.cks.length → ∃ u c', z.cells.toList[j]? = some u ∧ zw[j]? = some c' := fun j hj =>
        ⟨_, _, List.getElem?_eq_getElem (by rw [← h7, hzl]; exact hj), List.getElem?_eq_getElem (by rw [hzl]; exact hj)⟩
      obtain ⟨us0, hus0⟩ : ∃ us : Nat → Nat → Value, ∀ i j, us i j = z.cells.toList.getD j undef := ⟨fun _ j => z.cells.toList.getD j undef, fun _ _ => rfl⟩
      have hrows : ∀ (i : Nat) (row : List C), (List.replicate n.toNat zw)[i]? = some row → row.length = ie.cks.length := fun i row hi => by
        rw [List.getElem?_replicate] at hi
        split at hi
        · cases hi; exact hzl
        · cases hi
      obtain ⟨ow1, R1⟩ := R.takes0 (hs := flat us0 0 (List.replicate n.toNat zw)) (fun y hy => by
        obtain ⟨k', hk'⟩ := List.getElem?_of_mem hy
        obtain ⟨i', j, row, c', _, hi', hj, rfl⟩ := flat_of_get us0 _ 0 hrows _ y hk'
        rw [List.getElem?_replicate] at hi'
        split at hi'
        · cases hi'
          simp only [hus0]
          have hlt : j < z.cells.toList.length := by rw [← h7]; exact (List.getElem?_eq_some_iff.1 hj).1
          exact h8 _ j _ _ (by rw [List.getD_eq_getElem?_getD, List.getElem?_eq_getElem hlt]; rfl) hj
        · cases hi')
      have hsz := size_madeCells z.cells (c.toNat * f.size)
      obtain ⟨ow2, R2⟩ := R1.newOwn (hand := []) hrows (flat_snd us0 _ 0) (fun k' y hk' => by
          obtain ⟨i', j, row, c', _, hi', hj, rfl⟩ := flat_of_get us0 _ 0 hrows _ y hk'
          rw [List.getElem?_replicate] at hi'
          split at hi'
          · cases hi'
            simp only [hus0]
            have hlt : j < z.cells.toList.length := by rw [← h7]; exact (List.getElem?_eq_some_iff.1 hj).1
            exact (h8 0 j _ _ (by rw [List.getD_eq_getElem?_getD, List.getElem?_eq_getElem hlt]; rfl) hj).mono fun _ h => h.elim
          · cases hi') c.toNat (by simp; omega) (by simp only [maxLen]; omega) (madeCells z.cells (c.toNat * f.size)) (fun k' y hk' => by
          obtain ⟨i', j, row, c', rfl, hi', hj, rfl⟩ := flat_of_get us0 _ 0 hrows _ y hk'
          rw [List.getElem?_replicate] at hi'
          split at hi'
          · rename_i hin
            cases hi'
            have hjl : j < ie.cks.length := by rw [← hzl]; exact (List.getElem?_eq_some_iff.1 hj).1
            have hlt : j < z.cells.size := by rw [h6, h2]; exact hjl
            have hidx : i' * ie.cks.length + j < c.toNat * f.size := by
              rw [h2]
              have := Nat.mul_le_mul_right ie.cks.length (show i' + 1 ≤ c.toNat by omega)
              rw [Nat.succ_mul] at this; omega
            have hmod : (i' * ie.cks.length + j) % z.cells.size = j := by
              rw [h6, h2, Nat.mul_comm, Nat.mul_add_mod, Nat.mod_eq_of_lt hjl]
            simp only [hus0, madeCells, Array.getElem?_map, Array.getElem?_range, hidx, if_true, Option.map_some, hmod]
            rw [List.getD_eq_getElem?_getD, List.getElem?_eq_getElem (by simpa using hlt)]
            simp [hlt]
          · cases hi') (by rw [hsz, h2]; exact Nat.le_refl _) e (.inl rfl)
      obtain ⟨γ', ow3, R3, hc⟩ := R2.homeOwn (hand := []) (by simp)
      refine ⟨_, _, _, γ', ow3, _, ?_, ext_alloc _ _, h, R3, .one _ _ hc⟩
      have hl : (List.replicate n.toNat zw).length = n.toNat := by simp
      rw [hl]
      simp only [execOp, ho, e1, e2, Sem.run_bind, hr]
      rfl
    · cases h
  · cases h
theorem buildRows_ok {E : Env} {e : TypeId} {cks : List CK} : ∀ (ps : List (Nat × Operand)) (n0 : Nat) {ow : Nat → Option Ow} {hand : List (Value × C)} {σ : St} {k : List (List C) → St → Option Res}, (∀ x ∈ ps, σ.view x.2 = σ.view x.2) → Rel B γ st ow hand σ a.tmps w →
    buildRowsK E e cks n0 σ ps k = some r →
    ∃ (xs : List (Value × C)) (rows : List (List C)) (σ' : St) (ow' : Nat → Option Ow), k rows σ' = some r ∧ Rel B γ st ow' (hand ++ xs) σ' a.tmps w ∧ σ'.boxes.length = σ.boxes.length ∧ xs.map (·.2) = rows.flatten ∧ rows.length = ps.length ∧ (∀ (i : Nat) (row : List C), rows[i]? = some row → row.length = cks.length) ∧
      (∀ x ∈ xs, x.2.Inner) ∧ xs.map (·.1) = ps.flatMap (fun x => (a.eval x.2).cells.toList) ∧ (∀ x ∈ ps, (a.eval x.2).cells.size = cks.length) ∧ ps.map (·.1) = (List.range ps.length).map (n0 + ·)
  | [], n0, ow, hand, σ, k, _, R, h => ⟨[], [], σ, ow, h, by simpa using R, rfl, rfl, rfl, fun i row hi => by simp at hi, fun x hx => by simp at hx, rfl, fun x hx => by simp at hx, rfl⟩
  | (i, x) :: ps, n0, ow, hand, σ, k, hps, R, h => by
    unfold buildRowsK at h
    split at h
    · rename_i hcond
      obtain ⟨rfl, htup⟩ := hcond
      obtain ⟨us, hl, hpre, hus⟩ := slot_cells (slot_retype E e (R.view x)) (fun ss e => by rw [e] at htup; simp [S.isTup] at htup)
      obtain ⟨cs', σ1, ow1, h1, R1, hl1, hb1⟩ := Rel.takesC _ us R hl (fun i u c hu hc => (hpre i u c hu hc).pre) h
      have hfits : ∀ (cks : List CK) (cs : List C) (k : List C → Option Res), fitsK cks cs k = some r → k cs = some r ∧ cs.length = cks.length ∧ ∀ c ∈ cs, c.Nests := by
        intro cks
        induction cks with
        | nil => intro cs k h; cases cs with | nil => exact ⟨h, rfl, by simp⟩ | cons c cs => simp [fitsK] at h
        | cons ck cks ih =>
          intro cs k h
          cases cs with
          | nil => simp [fitsK] at h
          | cons c cs =>
            simp only [fitsK] at h
            obtain ⟨h, hn⟩ := fit_eq h
            obtain ⟨h, hl, hall⟩ := ih cs _ h
            refine ⟨h, by simp [hl], fun d hd => ?_⟩
            rcases List.mem_cons.1 hd with rfl | hd
            · exact hn.resolve_left (by simp)
            · exact hall d hd
      obtain ⟨h2, hl2, hnest⟩ := hfits _ _ _ h1
      have hbox : σ1.boxes.length = σ.boxes.length := hb1
      obtain ⟨xs, rows, σ2, ow2, h3, R2, hb2, hfl, hrl, hrows, hin, hfst, hcs, hidx⟩ := buildRows_ok ps (i + 1) (fun x hx => rfl) R1 h2
      have h1cell : ∀ x ∈ us, x.oneCell' = true := fun y hy => by
        obtain ⟨j, hj⟩ := List.getElem?_of_mem hy
        have hlt : j < cs'.length := by rw [← hl1]; exact (List.getElem?_eq_some_iff.1 hj).1
        have hz : (us.zip cs')[j]? = some (y, cs'[j]) := by rw [List.getElem?_zip_eq_some]; exact ⟨hj, List.getElem?_eq_getElem hlt⟩
        exact hand_one R1 _ (List.mem_of_getElem? hz)
      have hcl := cells_of hus h1cell
      refine ⟨us.zip cs' ++ xs, cs' :: rows, σ2, ow2, h3, by rw [← List.append_assoc]; exact R2, hb2.trans hbox, by rw [List.map_append, zip_snd _ _ hl1, hfl]; rfl, by simp [hrl], fun i row hi => ?_, fun y hy => ?_, ?_, fun y hy => ?_, ?_⟩
      · cases i with
        | zero => simp at hi; subst hi; exact hl2
        | succ i => exact hrows i row (by simpa using hi)
      · rcases List.mem_append.1 hy with hy | hy
        · obtain ⟨j, hj⟩ := List.getElem?_of_mem hy
          rw [List.getElem?_zip_eq_some] at hj
          have hh := R1.hands (hand.length + j) y (by rw [List.getElem?_append_right (by omega)]; rw [Nat.add_sub_cancel_left, List.getElem?_zip_eq_some]; exact hj)
          exact (hh.nest (hnest _ (List.mem_of_getElem? hj.2))).isInner
        · exact hin y hy
      · rw [List.map_append, zip_fst _ _ hl1, hfst, List.flatMap_cons, hcl]
      · rcases List.mem_cons.1 hy with rfl | hy
        · rw [hcl]; simp [hl1, hl2]
        · exact hcs y hy
      · simp only [List.map_cons, List.length_cons, List.range_succ_eq_map, hidx, List.map_map]
        congr 1
        apply List.map_congr_left
        intro m _
        simp; omega
    · cases h
end
end Go.Proofs.Gh
