/- Maps of texts that are the call's own. -/
import Derived.Test.YtmpnmcnjhpekaaaGh19
import Derived.MapKept
set_option linter.unusedSimpArgs false
namespace Go.Proofs.Gh
open Go.RowKit
section
variable {B : Base} {γ : Nat → Bx} {st st' : Nat → Prop} {ow : Nat → Option Ow} {hand : List (Value × C)} {σ : St} {w : World} {r : Res} {tmps : Array Value} {a : Act}
open Classical in
/-- BACK: a node gets its map back; memory stays as it is. -/
theorem Rel.putBackM {u : Value} {kvs : List (ByteArray × Value)} (R : Rel B γ st ow (hand ++ [(u, .mp kvs)]) σ tmps w) {p : Place} {d0 : C} (h0 : σ.nodeC p = some d0) (hv : placeV γ w p = some u) :
    ∃ ow', Rel B γ st ow' hand ((σ.put p (.mp kvs)).kill (C.beyond p)) tmps w := by
  obtain ⟨c, u0, v, Z, k, hc, hu, hv', hvr, hk, hZ, hr, hwc, hp⟩ := R.node h0
  rw [hv] at hv'; cases hv'
  have hlen : ((σ.put p (.mp kvs)).kill (C.beyond p)).boxes.length = σ.boxes.length := length_put _ _ _
  have hh := R.hands hand.length (u, .mp kvs) (getElem?_snoc_self _ _)
  have hsame : ∀ b y, ow b = some y → y ≠ .hand hand.length → (if ow b = some (.hand hand.length) then some (.cell p.r p.k) else ow b) = some y := fun b y h hn => by
    rw [if_neg (by rw [h]; simp; exact hn), h]
  have hback : ∀ b y, (if ow b = some (.hand hand.length) then some (.cell p.r p.k) else ow b) = some y → ∃ y', ow b = some y' ∧ ((∀ r, y' ≠ .box r) ∨ y' = y) := fun b y h => by
    by_cases e : ow b = some (.hand hand.length)
    · exact ⟨_, e, .inl (by simp)⟩
    · rw [if_neg e] at h; exact ⟨y, h, .inr rfl⟩
  refine ⟨fun b => if ow b = some (.hand hand.length) then some (.cell p.r p.k) else ow b, ?_⟩
  constructor
  · exact R.tab
  · simpa [St.kill, St.put] using R.size
  · intro t s u hs hu
    simp only [St.kill, St.put, List.getElem?_map] at hs
    cases hq : σ.slots[t]? with
    | none => rw [hq] at hs; simp at hs
    | some s' =>
      rw [hq] at hs
      simp only [Option.map_some, Option.some.injEq] at hs
      subst hs
      exact (R.slots t s' u hq hu).killed _ fun u c h hf => CellOk.boxes (σ := σ.put p (.mp kvs)) rfl (CellOk.put (c' := .mp kvs) h0 h (.inl hf) (fun x => by simp))
  · intro r j c1 hc1
    rw [root_kill, root_put] at hc1
    rw [hlen]
    by_cases e : r = p.r ∧ j = p.k
    · rw [if_pos e] at hc1
      obtain ⟨e1, e2⟩ := e
      subst e1 e2
      rw [hc] at hc1
      simp only [Option.map_some, Option.some.injEq] at hc1
      subst hc1
      refine ⟨u0, hu, ?_⟩
      have hin : Rep st γ w k u (.mp kvs) (fun b => ow b = some (.hand hand.length)) := by
        cases hh with
        | mp _ g _ ms clk _ h1 h2 h3 h4 => exact .mp _ g kvs ms clk _ h1 h2 h3 h4
      have h1 := hp (.mp kvs) _ hin (fun b h1 h2 => by rw [h1] at h2; cases h2)
      refine h1.mono fun b hb => ?_
      rcases hb with ⟨hb, _⟩ | hb
      · exact hsame b _ hb (by simp)
      · rw [if_pos hb]
    · rw [if_neg e] at hc1
      obtain ⟨u1, hu1, hr1⟩ := R.cells r j c1 hc1
      exact ⟨u1, hu1, hr1.mono fun b hb => hsame b _ hb (by simp)⟩
  · intro r b g o hb hg
    obtain ⟨b', hb', h1, h2⟩ := box_put (show (σ.put p (.mp kvs)).boxes[r]? = some b from hb)
    obtain ⟨h3, h4, h5⟩ := R.mem r b' g o hb' hg
    exact ⟨by rw [← h1]; exact h3, hsame g _ h4 (by simp), fun k hk => h5 k (by rw [h2]; exact hk)⟩
  · intro r b hb hf
    obtain ⟨b', hb', h1, _⟩ := box_put (show (σ.put p (.mp kvs)).boxes[r]? = some b from hb)
    exact R.free r b' hb' (h1.trans hf)
  · intro i x hx
    rw [hlen]
    have hi : i < hand.length := (List.getElem?_eq_some_iff.1 hx).1
    exact (R.hands i x (by rw [List.getElem?_append_left hi]; exact hx)).mono fun b hb => hsame b _ hb (by simp; omega)
  · intro b y hy
    obtain ⟨y', h, _⟩ := hback b y hy
    exact R.lt b y' h
  · intro b hb
    have := R.stlt b hb
    exact ⟨this.1, by rw [if_neg (by rw [this.2]; simp)]; exact this.2⟩
  · exact R.chg
  · intro b y hy hb hne
    obtain ⟨y', h, h'⟩ := hback b y hy
    refine R.mine b _ h hb ?_
    rcases h' with h' | h'
    · exact h'
    · rw [h']; exact hne
  · intro i x hx
    rw [hlen]; exact R.pin i x hx

theorem findNow_mp (s : ByteArray) : ∀ (ms : List MapEntry) (kvs : List (ByteArray × Value)) (i : Nat), ms.map (fun e => (e.key, e.val)) = kvs.map (fun x => (Value.string x.1, x.2)) →
    (mapGet s kvs = none ∧ Instr.findNow .string (.string s) ms i = some none) ∨ ∃ v j, mapGet s kvs = some v ∧ Instr.findNow .string (.string s) ms i = some (some (j, v))
  | [], [], _, _ => .inl ⟨rfl, rfl⟩
  | [], _ :: _, _, h => by simp at h
  | _ :: _, [], _, h => by simp at h
  | e :: ms, x :: kvs, i, h => by
    simp only [List.map_cons, List.cons.injEq, Prod.mk.injEq] at h
    obtain ⟨⟨h1, h2⟩, h3⟩ := h
    simp only [mapGet, Instr.findNow, h1, Instr.sameNow]
    cases hs : (s == x.1) with
    | true => exact .inr ⟨x.2, i, by simp, by simp [h2]⟩
    | false =>
      simp only [cond_false]
      exact findNow_mp s ms kvs (i + 1) h3
theorem mapGet_one {s : ByteArray} {v : Value} : ∀ {kvs : List (ByteArray × Value)}, mapGet s kvs = some v → ∃ x ∈ kvs, x.2 = v
  | [], h => by simp [mapGet] at h
  | x :: kvs, h => by
    simp only [mapGet] at h
    cases hs : (s == x.1) with
    | true => rw [hs] at h; simp at h; exact ⟨x, by simp, h⟩
    | false =>
      rw [hs] at h
      obtain ⟨y, hy, e⟩ := mapGet_one (kvs := kvs) (by simpa using h)
      exact ⟨y, by simp [hy], e⟩
theorem run_lookup_mp {P : Program} {t kt et : TypeId} {f : TypeInfo} {z : Value} {g clk : Nat} {ms : Array MapEntry} {kvs : List (ByteArray × Value)} (s : ByteArray) (hm : P.underlying t = some (.map kt et)) (hk : P.underlying kt = some .string)
    (hf : P.info? et = some f) (hz : f.zero = some z) (hb : w.heap[g]? = some (.map ms clk)) (hms : ms.toList.map (fun e => (e.key, e.val)) = kvs.map (fun x => (Value.string x.1, x.2))) :
    (Instr.lookup t (.map (some g)) (.string s) false).run P w = .ok ((mapGet s kvs).getD z) w := by
  have hc : ∀ em, (Instr.checkKey em 10000 kt (.string s)).run P w = .ok () w := fun em => MapKept.run_checkKey (k := .string s) hk (by simp [MapKept.IsKey]) em 9999
  rcases findNow_mp s ms.toList kvs 0 hms with ⟨h1, h2⟩ | ⟨v, j, h1, h2⟩
  · simp [Instr.lookup, run_underlying hm, MapKept.run_getObj_map hb, hc, MapKept.run_findKey hk h2, Result.andThen, h1, zeroValue, typeInfo, hf, hz]
  · simp [Instr.lookup, run_underlying hm, MapKept.run_getObj_map hb, hc, MapKept.run_findKey hk h2, Result.andThen, h1]
theorem run_mapUpdate_mp {P : Program} {t kt et : TypeId} {g clk : Nat} {ms : Array MapEntry} {kvs : List (ByteArray × Value)} (s : ByteArray) (u : Value) (hm : P.underlying t = some (.map kt et)) (hk : P.underlying kt = some .string)
    (hb : w.heap[g]? = some (.map ms clk)) (hms : ms.toList.map (fun e => (e.key, e.val)) = kvs.map (fun x => (Value.string x.1, x.2))) (hn : mapGet s kvs = none) :
    (Instr.mapUpdate t (.map (some g)) (.string s) u).run P w = .ok () { w with heap := w.heap.setIfInBounds g (.map (ms.push { key := .string s, val := u, born := clk }) (clk + 1)) } := by
  have hc : ∀ em, (Instr.checkKey em 10000 kt (.string s)).run P w = .ok () w := fun em => MapKept.run_checkKey (k := .string s) hk (by simp [MapKept.IsKey]) em 9999
  rcases findNow_mp s ms.toList kvs 0 hms with ⟨_, h2⟩ | ⟨v, j, h1, _⟩
  · simp [Instr.mapUpdate, run_underlying hm, MapKept.run_getObj_map hb, hc, MapKept.run_findKey hk h2, MapKept.run_setObj_map _ hb, Result.andThen]
  · rw [hn] at h1; cases h1
/-- The map's value, and what it is in memory. -/
theorem Rel.mapAt (R : Rel B γ st ow hand σ tmps w) {u : Value} {r' j : Nat} {kvs : List (ByteArray × Value)} (hu : CellOk σ st γ w u (.al ⟨r', j, []⟩)) (hr : σ.root r' j = some (.mp kvs)) :
    ∃ g ms clk, u = .map (some g) ∧ ow g = some (.cell r' j) ∧ w.heap[g]? = some (.map ms clk) ∧ ms.toList.map (fun e => (e.key, e.val)) = kvs.map (fun x => (Value.string x.1, x.2)) ∧ ∀ x ∈ kvs, x.2.oneCell' = true := by
  obtain ⟨d, h1, h2, h3⟩ := cell_al hu
  obtain ⟨u', h4, h5⟩ := R.cells _ _ _ hr
  have : u' = u := by
    simp only [placeV, walkV, h4, Option.bind_some] at h3
    exact Option.some.inj h3
  subst this
  cases h5 with
  | mp _ g _ ms clk _ g1 g2 g3 g4 => exact ⟨g, ms, clk, rfl, g1, g2, g3, g4⟩
theorem done_makeMap {P : Program} {o : Oper} {t : TypeId} {k : S → St → Option Res} (R : Rel B γ st ow [] σ a.tmps w) (ho : o.op = .makeMap t none)
    (h : k (.one (.al ⟨σ.boxes.length, 0, []⟩)) (σ.new true [.mp []]) = some r) : DoneE P B st a w (execOp a.eval o) k r := by
  have hal : (w.alloc (.map #[] 0)).heap = w.heap.push (.map #[] 0) := rfl
  have R0 : Rel B γ st ow ([] ++ []) σ a.tmps w := R
  obtain ⟨ow1, R1⟩ := R0.gather (w' := w.alloc (.map #[] 0)) (v' := .map (some w.heap.size)) (c' := .mp []) rfl rfl rfl (fun b hb _ => ext_alloc w _ b hb) (by rw [hal]; simp)
    (.mp _ w.heap.size [] #[] 0 _ (.inr ⟨Nat.le_refl _, by rw [hal]; simp⟩) (by rw [hal]; simp) rfl (by simp))
  obtain ⟨γ', ow2, R2, hc, _⟩ := R1.newFree (by simp)
  refine ⟨_, _, _, γ', ow2, _, ?_, ext_alloc _ _, h, R2, .one _ _ hc⟩
  simp [execOp, ho, Instr.makeMap]
theorem done_lookup {P : Program} {E : Env} (hE : EnvTy P E) {o : Oper} {t : TypeId} {m x : Operand} {k : S → St → Option Res} (R : Rel B γ st ow [] σ a.tmps w) (ho : o.op = .lookup t m x false)
    (h : (bound E t fun i => match i.mapz, σ.view m, σ.view x with
      | some z, .one (.al ⟨r, j, []⟩), .one (.v (.string s)) => ((σ.root r j).bind C.asMap).bind fun kvs => shapeC (zCK z) (.v ((mapGet s kvs).getD z)) fun c => k (.one c) σ
      | _, _, _ => none) = some r) : Done P B st a w (execOp a.eval o) k r := by
  obtain ⟨i, hi, hk, h⟩ := bound_some h
  have hT := hE t i hi
  have hm := R.view m
  have hx := R.view x
  split at h
  · rename_i z r' j s hz hs1 hs2
    rw [hs1] at hm; rw [hs2] at hx
    have e2 := slot_v hx
    rw [Option.bind_eq_some_iff] at h
    obtain ⟨kvs, hkv, h⟩ := h
    rw [Option.bind_eq_some_iff] at hkv
    obtain ⟨c, hc, hkv⟩ := hkv
    have : c = .mp kvs := by
      unfold C.asMap at hkv
      split at hkv
      · cases hkv; rfl
      · cases hkv
    subst this
    obtain ⟨g, ms, clk, e1, _, g2, g3, g4⟩ := R.mapAt (slot_one hm) hc
    obtain ⟨hz1, kt, et, f, d1, d2, d3, d4⟩ := hT.mapz z hz
    have hv1 : ((mapGet s kvs).getD z).oneCell' = true := by
      cases hg : mapGet s kvs with
      | none => simpa using hz1
      | some v =>
        obtain ⟨y, hy, rfl⟩ := mapGet_one hg
        simpa using g4 y hy
    obtain ⟨c', h, hr, _⟩ := shapeC_ok (Rep.v (st := st) (γ := γ) (w := w) σ.boxes.length ((mapGet s kvs).getD z) (fun _ => False) hv1) h
    refine ⟨_, _, σ, γ, ow, w, .inl ?_, h, R, .one _ _ (.rep _ _ hr)⟩
    simp only [execOp, ho, e1, e2, Sem.run_bind, run_lookup_mp s d1 d2 d3 d4 g2 g3]
    rfl
  · cases h
theorem done_mapUpdate {P : Program} {E : Env} (hE : EnvTy P E) {o : Oper} {t : TypeId} {m x y : Operand} {k : S → St → Option Res} (R : Rel B γ st ow [] σ a.tmps w) (ho : o.op = .mapUpdate t m x y)
    (h : (bound E t fun i => match i.mapz, σ.view m, σ.view x, σ.view y with
      | some _, .one (.al ⟨r, j, []⟩), .one (.v (.string s)), .one (.v u) => ((σ.root r j).bind C.asMap).bind fun kvs => match mapGet s kvs with
        | none => k (.one .unk) (σ.mapSet ⟨r, j, []⟩ (kvs ++ [(s, u)]))
        | some _ => none
      | _, _, _, _ => none) = some r) : Done P B st a w (execOp a.eval o) k r := by
  obtain ⟨i, hi, hk, h⟩ := bound_some h
  have hT := hE t i hi
  have hm := R.view m
  have hx := R.view x
  have hy := R.view y
  split at h
  · rename_i z r' j s u hz hs1 hs2 hs3
    rw [hs1] at hm; rw [hs2] at hx; rw [hs3] at hy
    have e2 := slot_v hx
    have e3 := slot_v hy
    have hu1 : u.oneCell' = true := by
      have hq := slot_one hy
      rw [e3] at hq
      cases hq with
      | rep _ _ hr => exact hr.one
    rw [Option.bind_eq_some_iff] at h
    obtain ⟨kvs, hkv, h⟩ := h
    rw [Option.bind_eq_some_iff] at hkv
    obtain ⟨c, hc, hkv⟩ := hkv
    have : c = .mp kvs := by
      unfold C.asMap at hkv
      split at hkv
      · cases hkv; rfl
      · cases hkv
    subst this
    split at h
    · rename_i hn
      obtain ⟨g, ms, clk, e1, g1, g2, g3, g4⟩ := R.mapAt (slot_one hm) hc
      obtain ⟨hz1, kt, et, f, d1, d2, d3, d4⟩ := hT.mapz z hz
      have hnode : σ.nodeC ⟨r', j, []⟩ = some (.mp kvs) := by simp [St.nodeC, hc, walkC]
      have hpv : placeV γ w ⟨r', j, []⟩ = some (.map (some g)) := by
        obtain ⟨d, _, _, h3⟩ := cell_al (slot_one hm)
        rw [h3, e1]
      obtain ⟨v, ow1, hv, R1⟩ := R.take hnode
      rw [hpv] at hv; cases hv
      obtain ⟨w', hw'⟩ : ∃ w' : World, w' = { w with heap := w.heap.setIfInBounds g (.map (ms.push { key := .string s, val := u, born := clk }) (clk + 1)) } := ⟨_, rfl⟩
      have hgl : g < w.heap.size := (Array.getElem?_eq_some_iff.1 g2).1
      have hother : ∀ b, b ≠ g → w'.heap[b]? = w.heap[b]? := fun b hb => by rw [hw']; simp [Ne.symm hb]
      have hself : w'.heap[g]? = some (.map (ms.push { key := .string s, val := u, born := clk }) (clk + 1)) := by rw [hw']; simp [hgl]
      have hg1 : ow1 g = some (.hand 0) := by
        have := R1.hands 0 _ rfl
        cases this with
        | mp _ _ _ _ _ _ q1 => exact q1
      obtain ⟨ow2, R2⟩ := Rel.gather (hand := []) (hs := [(.map (some g), .mp kvs)]) (w' := w') (v' := .map (some g)) (c' := .mp (kvs ++ [(s, u)])) R1 (by rw [hw']) (by rw [hw']) (by rw [hw']) (fun b _ hb => hother b fun e => hb 0 (by rw [e]; exact hg1))
        (by rw [hw']; simp) (.mp _ g _ (ms.push { key := .string s, val := u, born := clk }) (clk + 1) _ (.inl ⟨0, hg1⟩) hself (by simp [g3]) (fun q hq => by
          rcases List.mem_append.1 hq with hq | hq
          · exact g4 q hq
          · simp at hq; subst hq; exact hu1))
      have hpv' : placeV γ w' ⟨r', j, []⟩ = some (.map (some g)) := by
        rw [← hpv]
        simp only [placeV, cellV]
        cases hγ : γ r' with
        | val vs => rfl
        | mem g' o' =>
          have hg' : g' ≠ g := by
            rintro rfl
            obtain ⟨b, hb, _⟩ := root_box hc
            have := (R.mem r' b g' o' hb hγ).2.1
            rw [g1] at this; cases this
          simp only
          rw [World.cell?_of_block (w := w) (hother g' hg')]
          rfl
      have h0 : ((σ.put ⟨r', j, []⟩ .unk).kill (C.beyond ⟨r', j, []⟩)).nodeC ⟨r', j, []⟩ = some .unk := by
        simp only [St.nodeC, root_kill, root_put, and_self, if_true, hc, Option.map_some, Option.bind_some]
        rfl
      obtain ⟨ow3, R3⟩ := Rel.putBackM (hand := []) R2 h0 hpv'
      refine ⟨undef, .one .unk, _, γ, ow3, w', .inr ⟨?_, rfl⟩, h, R3, .one _ _ (.unk _)⟩
      simp only [execOp, ho, e1, e2, e3, Sem.run_bind, run_mapUpdate_mp s u d1 d2 g2 g3 hn, hw']
      rfl
    · cases h
  · cases h
end
end Go.Proofs.Gh
