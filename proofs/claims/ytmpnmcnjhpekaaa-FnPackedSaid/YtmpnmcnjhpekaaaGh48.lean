/- slices.Delete(s, 0, 1) of the function's own row. -/
import Derived.Test.YtmpnmcnjhpekaaaGh45
import Derived.Shelf.SlicesE.Delete
namespace Go.Proofs.Gh
open Go.RowKit Go.Shelf Go.Lib Go.Sort
variable {P : Program} {ρ : Ren}

theorem run_clear_cells (w : World) (t e ty : TypeId) (z : Value) (ht : P.underlying t = some (.slice e)) (hv : ∀ w, (zeroValue e).run P w = .ok z w) (b o n c : Nat) (hn : 0 < n) (h1 : ∀ u ∈ (Builtin.zeroCells z.cells n).toList, u.oneCell' = true)
    (hc : ∀ j, j < (Builtin.zeroCells z.cells n).toList.length → (w.cell? ⟨b, o + j, none⟩).isSome = true) (hf : ∀ j, j < (Builtin.zeroCells z.cells n).toList.length → w.frozen? ⟨b, o + j, none⟩ = false) :
    (Builtin.clear_ #[t] ty #[.slice (some ⟨b, o, none⟩) n c]).run P w = .ok (.tuple #[]) (w.setCells b o (Builtin.zeroCells z.cells n).toList) := by
  have hst := run_storeCells_cells (P := P) b o (Builtin.zeroCells z.cells n).toList 0 w (by simpa using hc) (by simpa using hf) h1
  simp only [Nat.add_zero] at hst
  obtain ⟨m, rfl⟩ : ∃ m, n = m + 1 := ⟨n - 1, by omega⟩
  simp [Builtin.clear_, run_underlying ht, hv, hst]

set_option maxHeartbeats 4000000 in
set_option maxRecDepth 1000000 in
theorem delete_call (L : SlLaysE0.n45 P ρ) (i0 : TypeInfo) (z : Value) (size : Nat) (hi : P.info? (ρ.t 23) = some i0) (hz1 : i0.size = size) (hzs : z.cells.size = size) (hz1c : ∀ u ∈ z.cells, u.oneCell' = true)
    (v23 : ∀ w, (zeroValue (ρ.t 23)).run P w = .ok z w) (z23 : ∀ w, (Go.sizeOf (ρ.t 23)).run P w = .ok size w) (g o m cap : Nat) (news : List Value) (w : World) (hl : news.length = m * size) (hcap : m + 1 ≤ cap) (hmx : cap ≤ 9223372036854775807)
    (hc : ∀ j u, news[j]? = some u → w.cell? ⟨g, o + size + j, none⟩ = some u) (h1 : ∀ u ∈ news, u.oneCell' = true) (hth : ∀ j, j < (m + 1) * size → (w.cell? ⟨g, o + j, none⟩).isSome = true ∧ w.frozen? ⟨g, o + j, none⟩ = false) :
    Calls P (ρ.f 45) #[.slice (some ⟨g, o, none⟩) (m + 1) cap, .int .i64 0, .int .i64 1] w fun e w' => e = .returned (.slice (some ⟨g, o, none⟩) m cap) ∧ w' = (w.drew.setCells g o news).setCells g (o + m * size) (Builtin.zeroCells z.cells 1).toList := by
  have mixed := L.mixed; have t0 := L.t0; have a0 := L.a0; have z0 := L.z0; have v0 := L.v0; have t3 := L.t3; have a3 := L.a3; have z3 := L.z3; have v3 := L.v3; have t4 := L.t4; have a4 := L.a4; have z4 := L.z4; have v4 := L.v4; have t22 := L.t22; have a22 := L.a22; have z22 := L.z22; have v22 := L.v22
  have hzl : (Builtin.zeroCells z.cells 1).toList.length = size := by rw [Array.length_toList, size_zeroCells, hzs, Nat.one_mul]
  have hzm : ∀ u ∈ (Builtin.zeroCells z.cells 1).toList, u.oneCell' = true := by
    intro u hu
    simp only [Builtin.zeroCells, Array.toList_map, List.mem_map] at hu
    obtain ⟨k, hk, rfl⟩ := hu
    have hk' : k < z.cells.size := by simpa using hk
    exact hz1c _ (by simp [Nat.mod_eq_of_lt hk', getElem!_pos z.cells k hk'])
  obtain ⟨A, hA, hsrc⟩ : ∃ A : Addr, (if cap = 1 then (some ⟨g, o, none⟩ : Option Addr) else some ⟨g, o + size, none⟩) = some A ∧ Hid (∀ t u, news[t]? = some u → w.drew.cell? (A.add t) = some u) := by
    by_cases h : cap = 1
    · refine ⟨⟨g, o, none⟩, by simp [h], fun t u hu => ?_⟩
      have h0 : news.length = 0 := by rw [hl, show m = 0 by omega, Nat.zero_mul]
      rw [List.length_eq_zero_iff.1 h0] at hu
      simp at hu
    · refine ⟨⟨g, o + size, none⟩, by simp [h], fun t u hu => ?_⟩
      rw [Addr.add_lit]
      exact hc t u hu
  have s1 : Hid (news.length = m * size) := hl
  have s2 : Hid (∀ u ∈ news, u.oneCell' = true) := h1
  have hms : (m + 1) * size = m * size + size := Nat.succ_mul _ _
  have s3 : Hid (∀ t, t < news.length → (w.drew.cell? ⟨g, o + 0 * size + t, none⟩).isSome = true ∧ w.drew.frozen? ⟨g, o + 0 * size + t, none⟩ = false) := by
    intro t ht
    rw [Nat.zero_mul, Nat.add_zero]
    exact hth t (by omega)
  obtain ⟨W1, hW1⟩ : ∃ W1, W1 = w.drew.setCells g (o + 0 * size) news := ⟨_, rfl⟩
  have hcl : ∀ ty, (Builtin.clear_ #[ρ.t 22] ty #[.slice (some ⟨g, o + m * size, none⟩) 1 (cap - m)]).run P W1 = .ok (.tuple #[]) (W1.setCells g (o + m * size) (Builtin.zeroCells z.cells 1).toList) :=
    fun ty => run_clear_cells W1 _ _ ty _ t22 v23 g (o + m * size) 1 _ (by omega) hzm (fun j hj => by
      rw [hzl] at hj
      rw [hW1, World.cell?_setCells_out _ _ _ _ _ (fun _ _ => by simp; omega), show o + m * size + j = o + (m * size + j) by omega]
      exact (hth _ (by omega)).1) (fun j hj => by
      rw [hzl] at hj
      rw [hW1, World.frozen?_setCells, show o + m * size + j = o + (m * size + j) by omega]
      exact (hth _ (by omega)).2)
  obtain ⟨Z, hZ⟩ : ∃ Z, Z = (Builtin.zeroCells z.cells 1).toList := ⟨_, rfl⟩
  rw [← hZ]
  rw [← hZ] at hcl hzl hzm
  clear hZ v23
  have hW : Hid (W1 = w.drew.setCells g (o + 0 * size) news) := hW1
  have hfin : W1 = w.drew.setCells g o news := by rw [hW1, Nat.zero_mul, Nat.add_zero]
  have X : Aside (W1 = w.drew.setCells g o news) := hfin
  have hic : 1 ≤ cap := by omega
  have hm1 : (1 : Int) ≤ (m : Int) + 1 := by omega
  clear hW1 hfin hth hc hl h1 hzl hzm hms
  obtain ⟨_, _, FG⟩ := L.f45
  go_enter FG, SlBodyN.n45_ntmps ρ
  go_wp2_with fail
  go_region_law_o (refine step_append_room rfl (.tmp 22) (.tmp 25) (ρ.t 22) rfl (ρ.t 23) i0 size t22 hi hz1 g o 0 cap (by simp [Act.eval, Act.put]) A m (cap - 1) news (by simp [Act.eval, Act.put]) s1.out hsrc.out s2.out (by omega) s3.out ?_; rw [← hW.out])
  go_wp2
  go_ret
  exact ⟨rfl, by rw [X.out]⟩

theorem setCells_side (g : Nat) : ∀ (vs : List Value) (o : Nat) (w : World), (w.setCells g o vs).os = w.os ∧ (w.setCells g o vs).tape = w.tape ∧ (w.setCells g o vs).output = w.output ∧ (w.setCells g o vs).heap.size = w.heap.size ∧ ∀ b, b ≠ g → (w.setCells g o vs).heap[b]? = w.heap[b]?
  | [], _, _ => ⟨rfl, rfl, rfl, rfl, fun _ _ => rfl⟩
  | v :: r, o, w => by
    obtain ⟨h1, h2, h3, h4, h5⟩ := setCells_side g r (o + 1) (w.setCell ⟨g, o, none⟩ v)
    refine ⟨h1, h2, h3, h4.trans (by simp), fun b hb => (h5 b hb).trans ?_⟩
    simp only [World.setCell, Array.getElem?_modify]
    rw [if_neg (Ne.symm hb)]
theorem setCells_heap (g : Nat) (e : TypeId) (fr : Nat × Nat) : ∀ (vs : List Value) (o : Nat) (w : World) (cur : Array Value), w.heap[g]? = some (.cells cur e fr) → ∃ cur', (w.setCells g o vs).heap[g]? = some (.cells cur' e fr) ∧ cur'.size = cur.size
  | [], _, _, cur, h => ⟨cur, h, rfl⟩
  | v :: r, o, w, cur, h => by
    obtain ⟨cur', h1, h2⟩ := setCells_heap g e fr r (o + 1) (w.setCell ⟨g, o, none⟩ v) (cur.setIfInBounds o v) (by
      simp only [World.setCell, Array.getElem?_modify, if_true]
      rw [h]; rfl)
    exact ⟨cur', h1, by rw [h2]; simp⟩
theorem heap_cell {w : World} {g : Nat} {cur : Array Value} {e : TypeId} {fr : Nat × Nat} (h : w.heap[g]? = some (.cells cur e fr)) (k : Nat) : w.cell? ⟨g, k, none⟩ = cur[k]? := by
  simp [World.cell?, h]

noncomputable abbrev delRun (sz : Nat) : List S → Option Res :=
  told (A := Option Bool × List C × List (List C)) (fun a => [.one (.sl true a.1 sz (a.2.1 :: a.2.2)), .one (.v (.int .i64 0)), .one (.v (.int .i64 1))]) (fun a => PlainRows sz (a.2.1 :: a.2.2))
    (fun a => (.one (.sl true a.1 sz a.2.2), [.one .unk, .one .unk, .one .unk]))
noncomputable def delSpec (sz : Nat) : Spec := ⟨[.tk, .ro, .ro], false, delRun sz⟩
theorem del_at {sz : Nat} {nl : Option Bool} {row : List C} {es : List (List C)} (h : PlainRows sz (row :: es)) :
    delRun sz [.one (.sl true nl sz (row :: es)), .one (.v (.int .i64 0)), .one (.v (.int .i64 1))] = some (.one (.sl true nl sz es), [.one .unk, .one .unk, .one .unk]) :=
  told_at (A := Option Bool × List C × List (List C)) (enc := fun a => [.one (.sl true a.1 sz (a.2.1 :: a.2.2)), .one (.v (.int .i64 0)), .one (.v (.int .i64 1))]) (a := (nl, row, es)) (fun a b h => by
    obtain ⟨a1, a2, a3⟩ := a; obtain ⟨b1, b2, b3⟩ := b
    simp at h; obtain ⟨rfl, rfl, rfl⟩ := h; rfl) h
theorem plain_map {α : Type} {f : α → List C} {sz : Nat} (hf : ∀ x, (f x).length = sz ∧ ∀ c ∈ f x, ∃ v : Value, c = .v v) (l : List α) : PlainRows sz (l.map f) := fun row hr => by
  obtain ⟨x, _, rfl⟩ := List.mem_map.1 hr
  exact hf x
theorem delete_ok (L : SlLaysE0.n45 P ρ) (i0 : TypeInfo) (z : Value) (size : Nat) (hi : P.info? (ρ.t 23) = some i0) (hz1 : i0.size = size) (hzs : z.cells.size = size) (hz1c : ∀ u ∈ z.cells, u.oneCell' = true)
    (v23 : ∀ w, (zeroValue (ρ.t 23)).run P w = .ok z w) (z23 : ∀ w, (Go.sizeOf (ρ.t 23)).run P w = .ok size w) : SpecOk P (ρ.f 45) (delSpec size) := by
  intro B γ ow us xs r R hm hr
  obtain ⟨⟨nl, row, es⟩, hp, rfl, rfl⟩ := told_some (show delRun size xs = some r from hr)
  replace R : Rel B γ B.st ow [] ⟨[.one (.al ⟨0, 0, []⟩), .one (.v (.int .i64 0)), .one (.v (.int .i64 1))], [⟨true, [.sl true nl size (row :: es)]⟩]⟩ us.toArray B.w := R
  obtain ⟨u0, u1, u2, rfl⟩ : ∃ u0 u1 u2, us = [u0, u1, u2] := by
    match us, (by simpa using R.size : us.length = 3) with
    | [u0, u1, u2], _ => exact ⟨u0, u1, u2, rfl⟩
  have e1 : u1 = .int .i64 0 := by
    cases slot_one (R.slots 1 _ u1 rfl rfl) with
    | rep _ _ h => cases h; rfl
  have e2 : u2 = .int .i64 1 := by
    cases slot_one (R.slots 2 _ u2 rfl rfl) with
    | rep _ _ h => cases h; rfl
  subst e1 e2
  obtain ⟨v, ow1, hv, R1⟩ := R.take (p := ⟨0, 0, []⟩) (d := .sl true nl size (row :: es)) rfl
  have e0 : u0 = v := by
    cases slot_one (R.slots 0 _ u0 rfl rfl) with
    | rep _ _ h => cases h
    | al _ _ d h1 h2 h3 => rw [hv] at h3; exact (Option.some.inj h3).symm
  subst e0
  have hrep := R1.hands 0 _ rfl
  simp only at hrep
  generalize hes : row :: es = rows at hrep
  cases hrep with
  | nil => cases hes
  | own _ g o cap _ _ _ vs Xs e cur _ h1 h2 h3 h4 h5 h6 h7 h8 h9 h10 h11 h12 =>
    subst hes
    simp only [List.length_cons] at h5 ⊢
    have hsz : 0 < size ∨ size = 0 := by omega
    have hcs : (es.length + 1) * size ≤ cap * size := Nat.mul_le_mul_right _ h5
    have hss : (es.length + 1) * size = es.length * size + size := Nat.succ_mul _ _
    have hvs : ∀ i j, i < es.length + 1 → j < size → cur[o + (i * size + j)]? = some (vs i j) ∧ (vs i j).oneCell' = true := by
      intro i j hi hj
      have hr1 : (row :: es)[i]? = some ((row :: es)[i]'(by simpa using hi)) := List.getElem?_eq_getElem _
      have hrl := h7 _ _ hr1
      have hc1 : ((row :: es)[i]'(by simpa using hi))[j]? = some (((row :: es)[i]'(by simpa using hi))[j]'(by omega)) := List.getElem?_eq_getElem _
      exact ⟨h8 _ _ _ _ hr1 hc1, (h9 _ _ _ _ hr1 hc1).one⟩
    have hdm : ∀ k, k < es.length * size → k / size < es.length ∧ k % size < size := by
      intro k hk
      have h0 : 0 < size := by
        rcases hsz with h | h
        · exact h
        · subst h; simp at hk
      exact ⟨Nat.div_lt_of_lt_mul (by rwa [Nat.mul_comm] at hk), Nat.mod_lt _ h0⟩
    have hnget : ∀ (k : Nat) (u : Value), ((List.range (es.length * size)).map fun k => vs (k / size + 1) (k % size))[k]? = some u → u = vs (k / size + 1) (k % size) ∧ k < es.length * size := by
      intro k u hu
      simp only [List.getElem?_map, Option.map_eq_some_iff] at hu
      obtain ⟨k', hk, rfl⟩ := hu
      obtain ⟨ha, hb⟩ := List.getElem?_eq_some_iff.1 hk
      simp at ha hb
      subst hb
      exact ⟨rfl, ha⟩
    refine (delete_call L i0 z size hi hz1 hzs hz1c v23 z23 g o es.length cap ((List.range (es.length * size)).map fun k => vs (k / size + 1) (k % size)) B.w (by simp) h5 (by simpa only [maxLen] using h6) (fun k u hu => ?_) (fun u hu => ?_) (fun j hj => ?_)).mono fun e' w' ⟨he, hw⟩ => ?_
    · obtain ⟨rfl, hk⟩ := hnget k u hu
      obtain ⟨ha, hb⟩ := hdm k hk
      rw [heap_cell h3]
      have := (hvs (k / size + 1) (k % size) (by omega) hb).1
      rw [← this]
      congr 1
      rw [Nat.add_mul, Nat.one_mul]
      have := Nat.div_add_mod k size
      rw [Nat.mul_comm] at this
      omega
    · obtain ⟨k, hk0⟩ := List.mem_iff_getElem?.1 hu
      obtain ⟨rfl, hk⟩ := hnget k u hk0
      obtain ⟨ha, hb⟩ := hdm k hk
      exact (hvs _ _ (by omega) hb).2
    · rw [heap_cell h3]
      refine ⟨by rw [Array.getElem?_eq_getElem (by omega)]; rfl, ?_⟩
      simp [World.frozen?, h3]
    · subst he
      obtain ⟨cur1, hc1, hs1⟩ := setCells_heap g e (0, 0) ((List.range (es.length * size)).map fun k => vs (k / size + 1) (k % size)) o B.w.drew cur h3
      obtain ⟨cur2, hc2, hs2⟩ := setCells_heap g e (0, 0) (Builtin.zeroCells z.cells 1).toList (o + es.length * size) _ cur1 hc1
      obtain ⟨q1, q2, q3, q4, q5⟩ := setCells_side g ((List.range (es.length * size)).map fun k => vs (k / size + 1) (k % size)) o B.w.drew
      obtain ⟨p1, p2, p3, p4, p5⟩ := setCells_side g (Builtin.zeroCells z.cells 1).toList (o + es.length * size) (B.w.drew.setCells g o ((List.range (es.length * size)).map fun k => vs (k / size + 1) (k % size)))
      rw [← hw] at hc2 p1 p2 p3 p4 p5
      have hrep2 : Rep B.st γ w' 1 (.slice (some ⟨g, o, none⟩) es.length cap) (.sl true nl size es) (fun b => (∃ k, ow1 b = some (.hand (([] : List (Value × C)).length + k))) ∨ (B.w.drew.heap.size ≤ b ∧ b < w'.heap.size)) := by
        refine .own _ g o cap size nl es (fun i j => vs (i + 1) j) (fun _ _ _ => False) e cur2 _ h1 (.inl ⟨0, h2⟩) hc2 (by omega) (by omega) h6 (fun i rw' hr => h7 (i + 1) rw' (by simpa using hr)) (fun i rw' j c hr hj => ?_) (fun i rw' j c hr hj => ?_) (fun _ _ _ h => h.elim) (fun _ _ h => h) (fun _ _ _ _ _ h => h.elim)
        · have hi' : i < es.length := (List.getElem?_eq_some_iff.1 hr).1
          have hrl : rw'.length = size := h7 (i + 1) rw' (by simpa using hr)
          have hj' : j < size := by rw [← hrl]; exact (List.getElem?_eq_some_iff.1 hj).1
          have hlt : i * size + j < es.length * size := by
            have : (i + 1) * size ≤ es.length * size := Nat.mul_le_mul_right _ hi'
            rw [Nat.succ_mul] at this; omega
          have h0 : 0 < size := by omega
          rw [← heap_cell hc2, hw, World.cell?_setCells_out _ _ _ _ _ (fun _ _ => by simp; omega)]
          have hin := World.cell?_setCells_in g ((List.range (es.length * size)).map fun k => vs (k / size + 1) (k % size)) o B.w.drew (fun k hk => by
            show (B.w.cell? _).isSome = true
            rw [heap_cell h3, Array.getElem?_eq_getElem (by simp at hk; omega)]; rfl) (i * size + j) (by simpa using hlt)
          rw [hin]
          simp only [List.getElem_map, List.getElem_range]
          rw [show (i * size + j) / size = i by rw [Nat.mul_comm, Nat.mul_add_div h0, Nat.div_eq_of_lt hj', Nat.add_zero], show (i * size + j) % size = j by rw [Nat.mul_comm, Nat.mul_add_mod, Nat.mod_eq_of_lt hj']]
        · obtain ⟨x, rfl⟩ := (hp rw' (List.mem_cons_of_mem _ (List.mem_of_getElem? hr))).2 c (List.mem_of_getElem? hj)
          have hr1 : (row :: es)[i + 1]? = some rw' := by simpa using hr
          have := h9 (i + 1) rw' j _ hr1 hj
          generalize vs (i + 1) j = u at this ⊢
          cases this with
          | v _ _ _ h1 => exact .v _ _ _ h1
      obtain ⟨ow2, R2⟩ := (R1.drew).gather (hand := []) (w' := w') (v' := .slice (some ⟨g, o, none⟩) es.length cap) (c' := .sl true nl size es) (p1.trans q1) (p2.trans q2) (p3.trans q3)
        (fun b hb hn => (p5 b (fun e => hn 0 (by rw [e]; exact h2))).trans (q5 b (fun e => hn 0 (by rw [e]; exact h2)))) (Nat.le_of_eq (p4.trans q4).symm) hrep2
      refine ⟨_, _, γ, ow2, _, rfl, .inl (.one (.one _ _)), R2.noSlots, rfl, ?_, ?_, rfl⟩
      · intro x hx
        simp at hx; subst hx
        simp [C.leaves, C.nested, C.free, rowsFree_plain (fun r hr => hp r (List.mem_cons_of_mem _ hr))]
      · simp [S.leaves, C.leaves, C.nested, C.free]
end Go.Proofs.Gh
