/- Words of this session's own: what the call has made, as a list of things that lie apart (blocks and rows); how each event of a walk turns the list. -/
import Derived.Test.YtimlccgpeoaigaaWWords
import Derived.Test.YtimlccgpeoaigaaWLast
import Derived.Test.YtimlccgpeoaigaaWMore
import Derived.Test.YtimlccgpeoaigaaV
namespace Go.Proofs.YtimlccgpeoaigaaX
open Go.RowKit Go.Proofs.YtimlccgpeoaigaaW.PrintWords Go.Proofs.YtimlccgpeoaigaaW.PrintLast Go.Proofs.YtimlccgpeoaigaaW.PrintMore
/-- A thing in memory: the blocks that it lies in, and what it says of a world. -/
structure Res where
  fp : Nat → Prop
  holds : World → Prop
  stable : ∀ W W' : World, W.heap.size ≤ W'.heap.size → (∀ k, fp k → W'.heap[k]? = W.heap[k]?) → holds W → holds W'
  live : ∀ W : World, holds W → ∀ k, fp k → k < W.heap.size
/-- A block whose cells are known. -/
def blk (g : Nat) (t : TypeId) (cs : Array Value) : Res where
  fp := fun k => k = g
  holds := fun W => W.heap[g]? = some (.cells cs t (0, 0))
  stable := fun _ _ _ h hh => (h g rfl).trans hh
  live := fun _ hh k hk => by
    have e : k = g := hk
    rw [e]
    exact blk_lt hh
/-- A row of elements of kind d; S: the blocks that it and the rows inside lie in. -/
def row {α : Type} (d : Kd α) (e base : Nat) (S : Nat → Prop) (v : Value) (xs : List α) : Res where
  fp := S
  holds := fun W => (∀ k, S k → k < W.heap.size) ∧ d.R e W base S v xs
  stable := fun _ _ hs h hh => ⟨fun k hk => Nat.lt_of_lt_of_le (hh.1 k hk) hs, Kd.R_move hh.2 h⟩
  live := fun _ hh k hk => hh.1 k hk
/-- Since w only new blocks have come or turned; the things of rs hold, and lie apart. -/
structure Fx (w W : World) (rs : List Res) : Prop where
  below : Below w.heap.size w W
  holds : ∀ r ∈ rs, r.holds W
  ge : ∀ r ∈ rs, ∀ k, r.fp k → w.heap.size ≤ k
  apart : ∀ (i j : Nat) (r s : Res), i ≠ j → rs[i]? = some r → rs[j]? = some s → ∀ k, r.fp k → ¬ s.fp k
theorem Fx.start (w : World) : Fx w w [] := ⟨Below.refl _ _, (fun r h => by cases h), (fun r h => by cases h), (fun i j r s _ h => by simp at h)⟩
section
variable {w W W1 : World} {rs : List Res}
theorem Fx.turn (h : Fx w W rs) (i : Nat) {r : Res} (r' : Res) (hi : rs[i]? = some r) (hos : W1.os = W.os) (htp : W1.tape = W.tape) (hout : W1.output = W.output) (hsz : W.heap.size ≤ W1.heap.size) (hsame : ∀ k, k < W.heap.size → ¬ r.fp k → W1.heap[k]? = W.heap[k]?)
    (hr : r'.holds W1) (hfp : ∀ k, r'.fp k → r.fp k ∨ W.heap.size ≤ k) : Fx w W1 (rs.set i r') := by
  have hm := List.mem_of_getElem? hi
  have hset : ∀ (j : Nat) (s : Res), (rs.set i r')[j]? = some s → (j = i ∧ s = r') ∨ (j ≠ i ∧ rs[j]? = some s) := by
    intro j s hj
    rw [List.getElem?_set] at hj
    split at hj
    · rename_i e
      split at hj
      · injection hj with hj
        exact .inl ⟨e.symm, hj.symm⟩
      · cases hj
    · rename_i e
      exact .inr ⟨fun q => e q.symm, hj⟩
  refine ⟨h.below.trans ⟨hos, htp, hout, hsz, fun k hk => hsame k (Nat.lt_of_lt_of_le hk h.below.size) (fun hf => by have := h.ge r hm k hf; omega)⟩, fun s hs => ?_, fun s hs k hk => ?_, fun a b x y hab ha hb k hx hy => ?_⟩
  · obtain ⟨j, hj⟩ := List.mem_iff_getElem?.1 hs
    rcases hset j s hj with ⟨_, rfl⟩ | ⟨hji, hj⟩
    · exact hr
    · have hs' := h.holds s (List.mem_of_getElem? hj)
      exact s.stable W W1 hsz (fun k hk => hsame k (s.live W hs' k hk) (fun hf => h.apart j i s r hji hj hi k hk hf)) hs'
  · obtain ⟨j, hj⟩ := List.mem_iff_getElem?.1 hs
    rcases hset j s hj with ⟨_, rfl⟩ | ⟨hji, hj⟩
    · rcases hfp k hk with hk | hk
      · exact h.ge r hm k hk
      · exact Nat.le_trans h.below.size hk
    · exact h.ge s (List.mem_of_getElem? hj) k hk
  · rcases hset a x ha with ⟨ea, ex⟩ | ⟨hai, ha'⟩
    · rcases hset b y hb with ⟨eb, ey⟩ | ⟨hbi, hb'⟩
      · exact hab (ea.trans eb.symm)
      · rw [ex] at hx
        rcases hfp k hx with hx | hx
        · exact h.apart i b r y (fun q => hbi q.symm) hi hb' k hx hy
        · have := y.live W (h.holds y (List.mem_of_getElem? hb')) k hy
          omega
    · rcases hset b y hb with ⟨eb, ey⟩ | ⟨hbi, hb'⟩
      · rw [ey] at hy
        rcases hfp k hy with hy | hy
        · exact h.apart a i x r hai ha' hi k hx hy
        · have := x.live W (h.holds x (List.mem_of_getElem? ha')) k hx
          omega
      · exact h.apart a b x y hab ha' hb' k hx hy
theorem Fx.call (h : Fx w W rs) (hb : Below W.heap.size W W1) : Fx w W1 rs :=
  ⟨Go.Proofs.YtimlccgpeoaigaaV.below_link h.below hb, fun s hs => s.stable W W1 hb.size (fun k hk => hb.block k (s.live W (h.holds s hs) k hk)) (h.holds s hs), h.ge, h.apart⟩
theorem Fx.drew (h : Fx w W rs) : Fx w W.drew rs := h.call (below_drew (Below.refl _ _))
theorem Fx.drewN (h : Fx w W rs) (n : Nat) : Fx w (W.drewN n) rs := h.call (pw_below_drewN (Below.refl _ _) n)
theorem Fx.add (h : Fx w W rs) (hb : Below W.heap.size W W1) (r : Res) (hr : r.holds W1) (hfp : ∀ k, r.fp k → W.heap.size ≤ k) : Fx w W1 (r :: rs) := by
  have h1 := h.call hb
  refine ⟨h1.below, fun s hs => ?_, fun s hs k hk => ?_, fun a b x y hab ha hb' k hx hy => ?_⟩
  · rcases List.mem_cons.1 hs with rfl | hs
    · exact hr
    · exact h1.holds s hs
  · rcases List.mem_cons.1 hs with rfl | hs
    · exact Nat.le_trans h.below.size (hfp k hk)
    · exact h.ge s hs k hk
  · match a, b, hab, ha, hb' with
    | 0, 0, hab, _, _ => exact hab rfl
    | 0, b + 1, _, ha, hb' =>
      have e : r = x := by simpa using ha
      subst e
      have hb' : rs[b]? = some y := by simpa using hb'
      have := y.live W (h.holds y (List.mem_of_getElem? hb')) k hy
      have := hfp k hx
      omega
    | a + 1, 0, _, ha, hb' =>
      have e : r = y := by simpa using hb'
      subst e
      have ha : rs[a]? = some x := by simpa using ha
      have := x.live W (h.holds x (List.mem_of_getElem? ha)) k hx
      have := hfp k hy
      omega
    | a + 1, b + 1, hab, ha, hb' => exact h.apart a b x y (by omega) (by simpa using ha) (by simpa using hb') k hx hy
/-- Some of the things alone, in another order. -/
theorem Fx.pick (h : Fx w W rs) (js : List Nat) (hn : js.Nodup) {rs' : List Res} (hr : rs'.length = js.length) (hj : ∀ i j : Nat, js[i]? = some j → rs[j]? = rs'[i]?) : Fx w W rs' := by
  have key : ∀ (i : Nat) (r : Res), rs'[i]? = some r → ∃ j : Nat, js[i]? = some j ∧ rs[j]? = some r := by
    intro i r hi
    have hl : i < js.length := by have := (List.getElem?_eq_some_iff.1 hi).1; omega
    exact ⟨js[i], List.getElem?_eq_getElem hl, (hj i _ (List.getElem?_eq_getElem hl)).trans hi⟩
  refine ⟨h.below, fun s hs => ?_, fun s hs k hk => ?_, fun a b x y hab ha hb k hx hy => ?_⟩
  · obtain ⟨i, hi⟩ := List.mem_iff_getElem?.1 hs
    obtain ⟨j, _, hj⟩ := key i s hi
    exact h.holds s (List.mem_of_getElem? hj)
  · obtain ⟨i, hi⟩ := List.mem_iff_getElem?.1 hs
    obtain ⟨j, _, hj⟩ := key i s hi
    exact h.ge s (List.mem_of_getElem? hj) k hk
  · obtain ⟨i, hi, hxi⟩ := key a x ha
    obtain ⟨j, hj', hyj⟩ := key b y hb
    refine h.apart i j x y (fun e => hab ?_) hxi hyj k hx hy
    subst e
    have h1 := (List.getElem?_eq_some_iff.1 hi)
    have h2 := (List.getElem?_eq_some_iff.1 hj')
    obtain ⟨l1, e1⟩ := h1
    obtain ⟨l2, e2⟩ := h2
    exact (List.getElem_inj hn).1 (e1.trans e2.symm)
theorem Fx.tail {r : Res} (h : Fx w W (r :: rs)) : Fx w W rs :=
  ⟨h.below, fun s hs => h.holds s (List.mem_cons_of_mem _ hs), fun s hs => h.ge s (List.mem_cons_of_mem _ hs), fun a b x y hab ha hb => h.apart (a + 1) (b + 1) x y (by omega) (by simpa using ha) (by simpa using hb)⟩
theorem Fx.alloc (h : Fx w W rs) {g : Nat} {t : TypeId} {cs : Array Value} (hg : g = W.heap.size) (hk : W1.heap[g]? = some (.cells cs t (0, 0))) (hb : Below W.heap.size W W1) : Fx w W1 (blk g t cs :: rs) :=
  h.add hb (blk g t cs) hk (fun k hk => by
    have e : k = g := hk
    omega)
theorem Fx.store (h : Fx w W rs) (i : Nat) {g : Nat} {t : TypeId} {cs : Array Value} (hi : rs[i]? = some (blk g t cs)) (j : Nat) (u : Value) (cs' : Array Value) (hc : cs.setIfInBounds j u = cs') : Fx w (W.setCell ⟨g, j, none⟩ u) (rs.set i (blk g t cs')) := by
  have hh : W.heap[g]? = some (.cells cs t (0, 0)) := h.holds _ (List.mem_of_getElem? hi)
  refine h.turn i (blk g t cs') hi rfl rfl rfl (by simp [World.setCell]) (fun k _ hn => Below.heap_setCell W ⟨g, j, none⟩ u k hn) (blk_put hh j u hc) (fun _ hk => .inl hk)
/-- A row that a callee, a literal or a make has laid. -/
theorem Fx.laid (h : Fx w W rs) {α : Type} {d : Kd α} {e : Nat} {v : Value} {xs : List α} (hR : d.R e W1 W.heap.size (fun _ => True) v xs) (hb : Below W.heap.size W W1) : ∃ S, Fx w W1 (row d e w.heap.size S v xs :: rs) := by
  have h2 := Kd.R_lower (Kd.R_bound hR) h.below.size
  refine ⟨fun k => W.heap.size ≤ k ∧ k < W1.heap.size, h.add hb (row d e w.heap.size _ v xs) ⟨fun k hk => hk.2, Kd.R_mono h2 (fun k hk => ⟨hk.2.1, hk.2.2.1⟩)⟩ (fun k hk => hk.1)⟩
/-- The same, laid while the world was w1 (a base that is not the world ahead). -/
theorem Fx.laidAt (h : Fx w W rs) {α : Type} {d : Kd α} {e B : Nat} {v : Value} {xs : List α} (hB : B = W.heap.size) (hR : d.R e W1 B (fun _ => True) v xs) (hb : Below W.heap.size W W1) : ∃ S, Fx w W1 (row d e w.heap.size S v xs :: rs) := by
  subst hB
  exact h.laid hR hb
/-- append has gone on a row. -/
theorem Fx.append (h : Fx w W rs) (i : Nat) {α : Type} {d : Kd α} {e base : Nat} {S : Nat → Prop} {v v1 : Value} {xs ys : List α} (hi : rs[i]? = some (row d e base S v xs))
    (hR : d.R e W1 base (fun k => S k ∨ W.heap.size ≤ k) v1 ys) (hg : W.grownBy W1 v.ownBlock) : ∃ S', Fx w W1 (rs.set i (row d e base S' v1 ys)) := by
  have hh : (∀ k, S k → k < W.heap.size) ∧ d.R e W base S v xs := h.holds _ (List.mem_of_getElem? hi)
  refine ⟨fun k => (S k ∨ W.heap.size ≤ k) ∧ k < W1.heap.size, h.turn i (row d e base _ v1 ys) hi hg.os hg.tape hg.output hg.size (fun k hk hn => hg.block k hk (fun e => hn (hh.2.1 k e.symm))) ⟨fun k hk => hk.2, Kd.R_mono (Kd.R_bound hR) (fun k hk => ⟨hk.1, hk.2.2.1⟩)⟩ (fun k hk => hk.1)⟩
/-- An element of a row has been written. -/
theorem Fx.put (h : Fx w W rs) (i : Nat) {α : Type} {d : Kd α} {e base : Nat} {S : Nat → Prop} {v : Value} {xs ys : List α} (hi : rs[i]? = some (row d e base S v xs))
    (hR : d.R e W1 base S v ys) (hg : W.grownBy W1 v.ownBlock) : Fx w W1 (rs.set i (row d e base S v ys)) := by
  have hh : (∀ k, S k → k < W.heap.size) ∧ d.R e W base S v xs := h.holds _ (List.mem_of_getElem? hi)
  exact h.turn i (row d e base S v ys) hi hg.os hg.tape hg.output hg.size (fun k hk hn => hg.block k hk (fun e => hn (hh.2.1 k e.symm))) ⟨fun k hk => Nat.lt_of_lt_of_le (hh.1 k hk) hg.size, hR⟩ (fun _ hk => .inl hk)
theorem Fx.rowOf (h : Fx w W rs) (i : Nat) {α : Type} {d : Kd α} {e base : Nat} {S : Nat → Prop} {v : Value} {xs : List α} (hi : rs[i]? = some (row d e base S v xs)) : d.R e W base S v xs := (h.holds _ (List.mem_of_getElem? hi)).2
/-- .. with room for what is new: as append asks for it. -/
theorem Fx.rowFor (h : Fx w W rs) (i : Nat) {α : Type} {d : Kd α} {e base : Nat} {S : Nat → Prop} {v : Value} {xs : List α} (hi : rs[i]? = some (row d e base S v xs)) : d.R e W base (fun k => S k ∨ W.heap.size ≤ k) v xs := Kd.R_mono (h.rowOf i hi) (fun _ hk => .inl hk)
theorem Fx.rowTrue (h : Fx w W rs) (i : Nat) {α : Type} {d : Kd α} {e base : Nat} {S : Nat → Prop} {v : Value} {xs : List α} (hi : rs[i]? = some (row d e base S v xs)) : d.R e W base (fun _ => True) v xs := Kd.R_mono (h.rowOf i hi) (fun _ _ => trivial)
theorem Fx.ge' (h : Fx w W rs) (i : Nat) {g : Nat} {t : TypeId} {cs : Array Value} (hi : rs[i]? = some (blk g t cs)) : w.heap.size ≤ g := h.ge _ (List.mem_of_getElem? hi) g rfl
theorem Fx.blkOf (h : Fx w W rs) (i : Nat) {g : Nat} {t : TypeId} {cs : Array Value} (hi : rs[i]? = some (blk g t cs)) : W.heap[g]? = some (.cells cs t (0, 0)) := h.holds _ (List.mem_of_getElem? hi)
theorem Fx.cell (h : Fx w W rs) (i j : Nat) {g : Nat} {t : TypeId} {cs : Array Value} {u : Value} (hi : rs[i]? = some (blk g t cs)) (hu : cs[j]? = some u) : W.cell? ⟨g, j, none⟩ = some u := (blk_cell (h.blkOf i hi) j).trans hu
theorem Fx.free (h : Fx w W rs) (i j : Nat) {g : Nat} {t : TypeId} {cs : Array Value} (hi : rs[i]? = some (blk g t cs)) : W.frozen? ⟨g, j, none⟩ = false := blk_frozen (h.blkOf i hi) j
theorem Fx.old (h : Fx w W rs) {a : Addr} {v : Value} (hc : w.cell? a = some v) : W.cell? a = some v := (h.below.cell (World.block_lt_of_cell? w a hc)).trans hc
theorem Fx.oldC (h : Fx w W rs) {α : Type} {d : Kd α} {A : Option Addr} {n : Nat} {xs : List α} (hc : Kd.C d w A n xs) : Kd.C d W A n xs := Kd.C_below hc h.below
end
end Go.Proofs.YtimlccgpeoaigaaX
