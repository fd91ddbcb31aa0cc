/- The program's functions by the ghost evaluator: what each computes, and that it does. -/
import Derived.Test.YtmpnmcnjhpekaaaGh47
import Derived.Test.YtmpnmcnjhpekaaaGh48
import Derived.Test.YtmpnmcnjhpekaaaGh45
import Derived.Test.YtmpnmcnjhpekaaaProg
import Derived.KernelRfl
import Derived.Test.YtmpnmcnjhpekaaaQa
set_option linter.unusedVariables false
set_option linter.unusedSimpArgs false
set_option maxRecDepth 100000
set_option maxHeartbeats 2000000
namespace Go.Proofs.Gh.Gm
def tys_m6 : List (Nat × TI) := []
theorem tys_m6_eq : tys_m6.map (fun x => tiOf Go.Proofs.Try.prog x.1 x.2.cks) = tys_m6.map fun x => some x.2 := by kernel_rfl
theorem isMa_iff {p : Prog} {m : Machine} : isMa p m = true ↔ memOk m.cells = true ∧ (m.cells.length : Int) = p.cells ∧ m.ths.length = p.codes.length ∧ ∀ (i : Nat) (h : i < m.ths.length) (h' : i < p.codes.length), thOk p.cells m.ths[i] p.codes[i] = true := by
  constructor
  · intro h
    have h0 := h
    simp only [isMa, Bool.and_eq_true, decide_eq_true_eq] at h0
    exact ⟨h0.1.1.1, h0.1.1.2, h0.1.2, fun i hi hi' => (isMa_th h hi).2⟩
  · rintro ⟨h1, h2, h3, h4⟩
    simp only [isMa, Bool.and_eq_true, decide_eq_true_eq, List.all_eq_true]
    refine ⟨⟨⟨h1, h2⟩, h3⟩, fun x hx => ?_⟩
    obtain ⟨i, hi, rfl⟩ := List.mem_iff_getElem.1 hx
    rw [List.getElem_zip]
    exact h4 i (by simp at hi; omega) (by simp at hi; omega)
theorem isMa_set {p : Prog} {m : Machine} (h : isMa p m = true) {t : Nat} {th : Thread} (ht : ∀ hc : t < p.codes.length, thOk p.cells th p.codes[t] = true) : isMa p { m with ths := m.ths.set t th } = true := by
  obtain ⟨h1, h2, h3, h4⟩ := isMa_iff.1 h
  refine isMa_iff.2 ⟨h1, h2, by simpa using h3, fun i hi hi' => ?_⟩
  simp only [List.getElem_set]
  split
  · rename_i e; subst e; exact ht hi'
  · exact h4 i (by simpa using hi) hi'
theorem memOk_set {c : List Int} {i : Nat} {v : Int} (h : memOk c = true) (hv : isV v = true) : memOk (c.set i v) = true := by
  simp only [memOk, Bool.and_eq_true, List.all_eq_true, List.length_set] at h ⊢
  exact ⟨h.1, fun x hx => (List.mem_or_eq_of_mem_set hx).elim (h.2 x) (fun e => e ▸ hv)⟩
theorem isMa_cells {p : Prog} {m : Machine} (h : isMa p m = true) {i : Nat} {v : Int} (hv : isV v = true) : isMa p { m with cells := m.cells.set i v } = true := by
  obtain ⟨h1, h2, h3, h4⟩ := isMa_iff.1 h
  exact isMa_iff.2 ⟨memOk_set h1 hv, by simpa using h2, h3, h4⟩
theorem isMa_bT {p : Prog} {m : Machine} (hp : progOk p = true) (h : isMa p m = true) : m.cells.length ≤ 16 ∧ m.ths.length ≤ 3 ∧ ∀ t ∈ m.ths, t.vals.length = 4 ∧ t.buf.length ≤ 3 := by
  obtain ⟨h1, h2, h3, h4⟩ := isMa_iff.1 h
  simp only [memOk, inB, Bool.and_eq_true, decide_eq_true_eq] at h1
  simp only [progOk, inB, Bool.and_eq_true, decide_eq_true_eq] at hp
  refine ⟨by omega, by omega, fun t ht => ?_⟩
  obtain ⟨i, hi, rfl⟩ := List.mem_iff_getElem.1 ht
  have := thOk_iff.1 (h4 i hi (by omega))
  have hb := this.2.2.2.1
  simp only [bufOk, Bool.and_eq_true, decide_eq_true_eq] at hb
  exact ⟨this.2.1, hb.1⟩
theorem isV_clamp (n : Int) : isV (clamp n) = true := by
  have e : clamp n = -1000000 ∨ clamp n = 1000000 ∨ (clamp n = n ∧ -1000000 < n ∧ n < 1000000) := by
    unfold clamp
    by_cases h1 : -1000000 < n <;> by_cases h2 : n < 1000000 <;> simp [h1, h2]
  rcases e with e | e | ⟨e, h1, h2⟩
  · rw [e]; rfl
  · rw [e]; rfl
  · rw [e]
    simp only [isV, inB, Bool.and_eq_true, decide_eq_true_eq]
    omega
theorem isV_getD {l : List Int} (h : ∀ v ∈ l, isV v = true) (i : Nat) : isV (l[i]?.getD 0) = true := by
  cases e : l[i]? with
  | none => rfl
  | some v => exact h v (List.mem_of_getElem? e)
theorem isV_readT {b : List Slot} {c : List Int} (hb : bufOk b = true) (hc : memOk c = true) (a : Int) : isV (readT b c a) = true := by
  simp only [readT]
  split
  · rename_i s hs
    have := List.mem_of_find?_eq_some hs
    simp only [bufOk, slotOk, Bool.and_eq_true, List.all_eq_true] at hb
    exact (hb.2 s (by simpa using this)).2
  · simp only [memOk, Bool.and_eq_true, List.all_eq_true] at hc
    exact isV_getD hc.2 _
theorem isMa_exec {p : Prog} {m : Machine} {t : Nat} (h : exOk p m t) : isMa p (execM p m t) = true := by
  obtain ⟨ht, hc, n, hn, hpc, hth, hin, hmo, hml, hcl, h3, he⟩ := exOk_get h
  have hm := h.2.1
  rw [he]
  obtain ⟨⟨hp1, hp2⟩, hv4, hvv, hbo, hbc⟩ := thOk_iff.1 hth
  generalize p.codes[t][n] = i at *
  simp only [instrOk, Bool.and_eq_true] at hin
  obtain ⟨⟨⟨⟨⟨⟨⟨g1, g2⟩, g3⟩, g4⟩, g5⟩, g6⟩, g7⟩, g8⟩ := hin
  simp only [inB, Bool.and_eq_true, decide_eq_true_eq] at g1 g2 g3 g4 g5
  have hset : ∀ v, isV v = true → isMa p { m with ths := m.ths.set t { m.ths[t] with pc := m.ths[t].pc + 1, vals := m.ths[t].vals.set i.r.toNat v } } = true := fun v hv =>
    isMa_set hm fun _ => thOk_iff.2 ⟨⟨by simp only; omega, by simp only; omega⟩, by simpa using hv4, fun x hx => (List.mem_or_eq_of_mem_set hx).elim (hvv x) (fun e => e ▸ hv), hbo, hbc⟩
  have hcases : i.op = 0 ∨ i.op = 1 ∨ i.op = 8 ∨ i.op = 4 ∨ i.op = 6 ∨ i.op = 2 ∨ i.op = 3 ∨ i.op = 5 ∨ i.op = 7 := by omega
  have hn2 : i.op = 2 ∨ i.op = 3 ∨ i.op = 5 ∨ i.op = 7 → 0 ≤ i.n ∧ i.n < p.cells := by
    intro ho
    have : inB i.n 0 (p.cells - 1) = true := by
      rcases ho with e | e | e | e <;> simpa [useN, e] using g8
    simp only [inB, Bool.and_eq_true, decide_eq_true_eq] at this
    omega
  have hmc : ∀ k : Nat, isV (m.cells[k]?.getD 0) = true := by
    simp only [memOk, Bool.and_eq_true, List.all_eq_true] at hmo
    exact isV_getD hmo.2
  rcases hcases with e | e | e | e | e | e | e | e | e
  · have hv : isV i.n = true := by
      have : inB i.n (-1000) 1000 = true := by simpa [useN, e] using g8
      simp only [isV, inB, Bool.and_eq_true, decide_eq_true_eq] at this ⊢
      omega
    simpa [execI, e] using hset _ hv
  · simpa [execI, e] using hset _ (isV_clamp _)
  · simpa [execI, e] using hset _ (isV_clamp _)
  · simpa [execI, e] using isMa_set hm (t := t) (th := { m.ths[t] with pc := m.ths[t].pc + 1 }) fun _ => thOk_iff.2 ⟨⟨by simp only; omega, by simp only; omega⟩, hv4, hvv, hbo, hbc⟩
  · have hj : inB i.n 0 p.codes[t].length = true := by simpa [useN, e] using g8
    simp only [inB, Bool.and_eq_true, decide_eq_true_eq] at hj
    simpa [execI, e] using isMa_set hm (t := t) (th := { m.ths[t] with pc := bif m.ths[t].vals[i.r.toNat]?.getD 0 == 0 then i.n else m.ths[t].pc + 1 }) fun _ => thOk_iff.2 ⟨by
      cases (m.ths[t].vals[i.r.toNat]?.getD 0 == 0)
      · exact ⟨by simp only [cond_false]; omega, by simp only [cond_false]; omega⟩
      · exact ⟨by simp only [cond_true]; omega, by simp only [cond_true]; omega⟩, hv4, hvv, hbo, hbc⟩
  · simpa [execI, e] using hset _ (isV_readT hbo hmo _)
  · obtain ⟨k1, k2⟩ := hn2 (by omega)
    have hb3 := h3 e
    simpa [execI, e] using isMa_set hm (t := t) (th := { m.ths[t] with pc := m.ths[t].pc + 1, buf := m.ths[t].buf ++ [⟨i.n, m.ths[t].vals[i.r.toNat]?.getD 0⟩] }) fun _ => thOk_iff.2 ⟨⟨by simp only; omega, by simp only; omega⟩, hv4, hvv, by
      simp only [bufOk, slotOk, inB, Bool.and_eq_true, decide_eq_true_eq, List.all_eq_true, List.length_append, List.length_singleton, List.mem_append, List.mem_singleton] at hbo ⊢
      refine ⟨by omega, fun s hs => ?_⟩
      rcases hs with hs | rfl
      · exact hbo.2 s hs
      · exact ⟨by simp only; omega, isV_getD hvv _⟩, fun s hs => by
      rcases List.mem_append.1 hs with hs | hs
      · exact hbc s hs
      · rw [List.mem_singleton.1 hs]; exact k2⟩
  · have h1 := isMa_cells (hset 1 rfl) (i := i.n.toNat) (v := m.ths[t].vals[i.s.toNat]?.getD 0) (isV_getD hvv _)
    have h0 := hset 0 rfl
    simp only [execI, e]
    cases (m.cells[i.n.toNat]?.getD 0 == m.ths[t].vals[i.r.toNat]?.getD 0)
    · simpa using h0
    · simpa using h1
  · have h1 := isMa_cells (hset _ (hmc i.n.toNat)) (i := i.n.toNat) (v := m.ths[t].vals[i.s.toNat]?.getD 0) (isV_getD hvv _)
    simpa [execI, e] using h1
theorem isMa_drain {p : Prog} {m : Machine} {t : Nat} (hm : isMa p m = true) (h : drOk m t) : isMa p (drainM m t) = true := by
  obtain ⟨th, s, b, h1, h2, h3, h4⟩ := h
  obtain ⟨ht, rfl⟩ := List.getElem?_eq_some_iff.1 h1
  obtain ⟨hc, hth⟩ := isMa_th hm ht
  obtain ⟨hp, hv4, hvv, hbo, hbc⟩ := thOk_iff.1 hth
  rw [h2] at hbo hbc
  simp only [bufOk, slotOk, Bool.and_eq_true, List.all_eq_true, decide_eq_true_eq, List.length_cons] at hbo
  have h5 := isMa_set hm (t := t) (th := { m.ths[t] with buf := b }) fun _ => thOk_iff.2 ⟨hp, hv4, hvv, by
    simp only [bufOk, slotOk, Bool.and_eq_true, List.all_eq_true, decide_eq_true_eq]
    exact ⟨by omega, fun s' hs => hbo.2 s' (List.mem_cons_of_mem _ hs)⟩, fun s' hs => hbc s' (List.mem_cons_of_mem _ hs)⟩
  have h6 := isMa_cells h5 (i := s.a.toNat) (v := s.v) (hbo.2 s (by simp)).2
  simpa [drainM, h1, h2] using h6
theorem drOk_of {p : Prog} {m : Machine} {t : Int} (hm : isMa p m = true) (h : canMv p m t true = true) : 0 ≤ t ∧ drOk m t.toNat := by
  simp only [canMv, inB, Bool.and_eq_true, decide_eq_true_eq] at h
  obtain ⟨⟨h0, h1⟩, h2⟩ := h
  refine ⟨h0, ?_⟩
  have ht : t.toNat < m.ths.length := by omega
  obtain ⟨hc, hth⟩ := isMa_th hm ht
  rw [List.getElem?_eq_getElem ht, List.getElem?_eq_getElem hc] at h2
  obtain ⟨hp, hv4, hvv, hbo, hbc⟩ := thOk_iff.1 hth
  have hml := (isMa_iff.1 hm).2.1
  cases hb : m.ths[t.toNat].buf with
  | nil => simp [hb] at h2
  | cons s b =>
    rw [hb] at hbo hbc
    simp only [bufOk, slotOk, inB, Bool.and_eq_true, List.all_eq_true, decide_eq_true_eq] at hbo
    have h3 := (hbo.2 s (by simp)).1
    have h4 := hbc s (by simp)
    exact ⟨_, s, b, List.getElem?_eq_getElem ht, hb, h3.1, by omega⟩
theorem exOk_of {p : Prog} {m : Machine} {t : Int} (hp : progOk p = true) (hm : isMa p m = true) (h : canMv p m t false = true) : 0 ≤ t ∧ exOk p m t.toNat := by
  simp only [canMv, inB, Bool.and_eq_true, decide_eq_true_eq] at h
  obtain ⟨⟨h0, h1⟩, h2⟩ := h
  refine ⟨h0, hp, hm, ?_⟩
  have ht : t.toNat < m.ths.length := by omega
  obtain ⟨hc, hth⟩ := isMa_th hm ht
  rw [List.getElem?_eq_getElem ht, List.getElem?_eq_getElem hc] at h2
  simp only [cond_false] at h2
  cases hi : p.codes[t.toNat][m.ths[t.toNat].pc.toNat]? with
  | none => rw [hi] at h2; simp at h2
  | some i =>
    rw [hi] at h2
    refine ⟨i, _, by simp [instrAt, List.getElem?_eq_getElem ht, List.getElem?_eq_getElem hc, hi], List.getElem?_eq_getElem ht, fun e => ?_⟩
    simpa [e] using h2
def mvM (p : Prog) (m : Machine) (t : Int) (dr : Bool) : Machine := bif dr then drainM m t.toNat else execM p m t.toNat
theorem isMa_mv {p : Prog} {m : Machine} {t : Int} {dr : Bool} (hp : progOk p = true) (hm : isMa p m = true) (h : canMv p m t dr = true) : isMa p (mvM p m t dr) = true := by
  cases dr
  · exact isMa_exec (exOk_of hp hm h).2
  · exact isMa_drain hm (drOk_of hm h).2
end Go.Proofs.Gh.Gm
set_option linter.unusedVariables false
set_option linter.unusedSimpArgs false
set_option maxRecDepth 100000
set_option maxHeartbeats 2000000
namespace Go.Proofs.Gh.Gm
def tys_m7 : List (Nat × TI) := [(0, ⟨false, 0, [], [], .tuple [], false, none⟩),
  (3, ⟨false, 8, [.int .i64], [.int 0], .scalar, false, none⟩),
  (4, ⟨false, 1, [.bool], [.bool false], .scalar, false, none⟩),
  (23, ⟨false, 24, [.sl 1], [.sl true (some true) 1 []], .slice 3, false, none⟩),
  (64, ⟨false, 24, [.sl 1], [.sl true (some true) 1 []], .slice 69, false, none⟩),
  (66, ⟨true, 32, [.int .i64, .sl 1], [.int 0, .sl true (some true) 1 []], .struct [(0, 1, false), (1, 1, false)], false, none⟩),
  (69, ⟨false, 24, [.sl 4], [.sl true (some true) 4 []], .slice 135, false, none⟩),
  (71, ⟨true, 24, [.sl 1], [.sl true (some true) 1 []], .struct [(0, 1, false)], false, none⟩),
  (72, ⟨false, 24, [.sl 3], [.sl true (some true) 3 []], .slice 84, false, none⟩),
  (74, ⟨true, 48, [.sl 1, .sl 3], [.sl true (some true) 1 [], .sl true (some true) 3 []], .struct [(0, 1, true), (1, 1, false)], false, none⟩),
  (78, ⟨true, 16, [.int .i64, .bool], [.int 0, .bool false], .struct [(0, 1, false), (1, 1, false)], true, none⟩),
  (84, ⟨true, 56, [.int .i64, .sl 1, .sl 2], [.int 0, .sl true (some true) 1 [], .sl true (some true) 2 []], .struct [(0, 1, false), (1, 1, false), (2, 1, false)], false, none⟩)]
theorem tys_m7_eq : tys_m7.map (fun x => tiOf Go.Proofs.Try.prog x.1 x.2.cks) = tys_m7.map fun x => some x.2 := by kernel_rfl
theorem bT_of {p : Prog} {m : Machine} (hp : progOk p = true) (h : isMa p m = true) : m.cells.length ≤ 1048576 ∧ bT m.ths := by
  obtain ⟨h1, h2, h3⟩ := isMa_bT hp h
  exact ⟨by omega, by omega, fun t ht => by have := h3 t ht; omega⟩
theorem bndT_of {l : List Thread} (h : bT l) : bndT l := ⟨by have := h.1; omega, fun t ht => by have := h.2 t ht; omega⟩
/-! imoved: loop.example/g00712/impl.moved -/
noncomputable def Qimoved : Fx := ⟨Go.Proofs.Try.f108, [.ro, .ro, .ro], false, mkEnv tys_m7 [(107, SiMachine_own), (160, SiMachine_drain), (161, SiMachine_execute)] [(160, [.bx [.sl 1, .sl 3]]), (161, [.bx [.sl 1, .sl 3]])], fun _ => .stop, []⟩
noncomputable def Fimoved : List S → Option Res := veil Qimoved.run
noncomputable def Simoved : Spec := ⟨[.ro, .ro, .ro], false, Fimoved⟩
theorem mimoved (x1 : Int) (x2 : List (List C)) (x3 : List (List C)) (x4 : List (List C)) (x5 : Int) (x6 : Bool) : Fimoved [.agg [.int x1, .sl false none 1 x2], .agg [.sl false none 1 x3, .sl false none 3 x4], .agg [.int x5, .bool x6]] = cV true [.sl 1, .sl 3] (FiMachine_own [.agg [.sl false none 1 x3, .sl false none 3 x4]]) fun o1 l1 o2 l2 => bif x6 then cOT [.bx [.sl 1, .sl 3]] [] (FiMachine_drain [.one (.bx [.sl true none 1 l1, .sl true none 3 l2]), .one (.int x5)]) fun o3 l3 o4 l4 => fr false 3 [.agg [.sl true none 1 l3, .sl true none 3 l4]] else cOT [.bx [.sl 1, .sl 3]] [] (FiMachine_execute [.one (.bx [.sl true none 1 l1, .sl true none 3 l2]), .agg [.int x1, .sl false none 1 x2], .one (.int x5)]) fun o5 l5 o6 l6 => fr false 3 [.agg [.sl true none 1 l5, .sl true none 3 l6]] := Fx.eq (by kernel_rfl)
theorem okimoved : CalleeOk Go.Proofs.Try.prog 108 Simoved := Fx.ok (F := Qimoved) follows (envTy_mk tys_m7_eq) (envSpec_of (specsOk_cons okiMachine_own (specsOk_cons okiMachine_drain (specsOk_cons okiMachine_execute specsOk_nil)))) Go.Proofs.Try.func108 (by kernel_rfl) (by kernel_rfl) (by rw [show subs Qimoved.code = [] by kernel_rfl]; trivial) (by kernel_rfl) (by kernel_rfl) rfl
theorem Fimoved_at (p : Prog) (m : Machine) (t : Int) (dr : Bool) (h : progOk p = true ∧ isMa p m = true ∧ canMv p m t dr = true) : Fimoved [S.agg (encProg false p), S.agg (encMa false m), S.agg [C.int t, C.bool dr]] = some (S.agg (encMa true (mvM p m t dr)), [S.one C.unk, S.one C.unk, S.one C.unk]) := by
  obtain ⟨h1, h2, h3⟩ := h
  rw [mimoved, FiMachine_own_at m (bT_of h1 h2)]
  cases dr
  · obtain ⟨h0, hx⟩ := exOk_of h1 h2 h3
    obtain ⟨n, rfl⟩ := Int.eq_ofNat_of_zero_le h0
    simp [FiMachine_execute_at p m n hx, mvM]
  · obtain ⟨h0, hx⟩ := drOk_of h2 h3
    obtain ⟨n, rfl⟩ := Int.eq_ofNat_of_zero_le h0
    simp [FiMachine_drain_at m n hx, mvM]
def canP (p : Prog) (m : Machine) (t : Int) (dr : Bool) : Bool := progOk p && isMa p m && canMv p m t dr
/-! iDoMove: loop.example/g00712/impl.DoMove -/
noncomputable def QiDoMove : Fx := ⟨Go.Proofs.Try.f54, [.ro, .ro, .ro], false, mkEnv tys_m7 [(107, SiMachine_own), (108, Simoved), (53, SiCanMove)] [], fun _ => .stop, []⟩
noncomputable def FiDoMove : List S → Option Res := veil QiDoMove.run
noncomputable def SiDoMove : Spec := ⟨[.ro, .ro, .ro], false, FiDoMove⟩
theorem miDoMove (x1 : Int) (x2 : List (List C)) (x3 : List (List C)) (x4 : List (List C)) (x5 : Int) (x6 : Bool) : FiDoMove [.agg [.int x1, .sl false none 1 x2], .agg [.sl false none 1 x3, .sl false none 3 x4], .agg [.int x5, .bool x6]] = cV false [.bool] (FiCanMove [.agg [.int x1, .sl false none 1 x2], .agg [.sl false none 1 x3, .sl false none 3 x4], .agg [.int x5, .bool x6]]) fun b1 => bif !b1 then cV true [.sl 1, .sl 3] (FiMachine_own [.agg [.sl false none 1 x3, .sl false none 3 x4]]) fun o1 l1 o2 l2 => fr false 3 [.agg [.sl true none 1 l1, .sl true none 3 l2], .one (.bool false)] else cV true [.sl 1, .sl 3] (Fimoved [.agg [.int x1, .sl false none 1 x2], .agg [.sl false none 1 x3, .sl false none 3 x4], .agg [.int x5, .bool x6]]) fun o3 l3 o4 l4 => fr false 3 [.agg [.sl true none 1 l3, .sl true none 3 l4], .one (.bool true)] := Fx.eq (by kernel_rfl)
theorem okiDoMove : CalleeOk Go.Proofs.Try.prog 54 SiDoMove := Fx.ok (F := QiDoMove) follows (envTy_mk tys_m7_eq) (envSpec_of (specsOk_cons okiMachine_own (specsOk_cons okimoved (specsOk_cons okiCanMove specsOk_nil)))) Go.Proofs.Try.func54 (by kernel_rfl) (by kernel_rfl) (by rw [show subs QiDoMove.code = [] by kernel_rfl]; trivial) (by kernel_rfl) (by kernel_rfl) rfl
theorem FiDoMove_at (p : Prog) (m : Machine) (t : Int) (dr : Bool) (h : bndL p.codes ∧ m.cells.length ≤ 1048576 ∧ bT m.ths) : FiDoMove [S.agg (encProg false p), S.agg (encMa false m), S.agg [C.int t, C.bool dr]] = some (S.tup [S.agg (encMa true (bif canP p m t dr then mvM p m t dr else m)), S.one (C.bool (canP p m t dr))], [S.one C.unk, S.one C.unk, S.one C.unk]) := by
  obtain ⟨h1, h2, h3⟩ := h
  rw [miDoMove, FiCanMove_at p m t dr ⟨h1, by omega, bndT_of h3, h3.1⟩, FiMachine_own_at m ⟨h2, h3⟩]
  cases hc : canP p m t dr
  · simp [show (progOk p && isMa p m && canMv p m t dr) = false from hc]
  · have hc' := hc
    simp only [canP, Bool.and_eq_true] at hc'
    simp [hc'.1.1, hc'.1.2, hc'.2, Fimoved_at p m t dr ⟨hc'.1.1, hc'.1.2, hc'.2⟩]
def running (p : Prog) (m : Machine) (t : Int) : Bool := inB t 0 ((m.ths.length : Int) - 1) && (match m.ths[t.toNat]?, p.codes[t.toNat]? with
  | some th, some c => decide (th.pc < c.length)
  | _, _ => false)
/-! iisRunning: loop.example/g00712/impl.isRunning -/
noncomputable def QiisRunning : Fx := ⟨Go.Proofs.Try.f109, [.ro, .ro, .ro], false, mkEnv tys_m7 [(85, Siwithin)] [], fun id => bif Nat.beq id 1 then .sq [0, 1, 2, 3, 4, 5, 6, 7, 8, 9, 10, 11, 12, 13, 14, 15, 16, 17, 18, 19, 20, 21] .stop else .stop, []⟩
noncomputable def FiisRunning : List S → Option Res := veil QiisRunning.run
noncomputable def SiisRunning : Spec := ⟨[.ro, .ro, .ro], false, FiisRunning⟩
theorem miisRunning (x1 : Int) (x2 : List (List C)) (x3 : List (List C)) (x4 : List (List C)) (x5 : Int) : FiisRunning [.agg [.int x1, .sl false none 1 x2], .agg [.sl false none 1 x3, .sl false none 3 x4], .one (.int x5)] = cV false [.bool] (Fiwithin [.one (.int x5), .one (.int 0), .one (.int (W ((x4.length : Int) - 1)))]) fun b1 => bif b1 then ix x5 x4 ((x4[Int.toNat x5]?).bind fun w1 => tRo [.int .i64] w1 fun n1 => ix x5 x2 ((x2[Int.toNat x5]?).bind fun w2 => tRo [.sl 4] w2 fun _ l1 => fr false 3 [.one (.bool (decide (n1 < (l1.length : Int))))])) else fr false 3 [.one (.bool false)] := Fx.eq (by kernel_rfl)
theorem okiisRunning : CalleeOk Go.Proofs.Try.prog 109 SiisRunning := Fx.ok (F := QiisRunning) follows (envTy_mk tys_m7_eq) (envSpec_of (specsOk_cons okiwithin specsOk_nil)) Go.Proofs.Try.func109 (by kernel_rfl) (by kernel_rfl) (by rw [show subs QiisRunning.code = [] by kernel_rfl]; trivial) (by kernel_rfl) (by kernel_rfl) rfl
theorem FiisRunning_at (p : Prog) (m : Machine) (t : Int) (h : isMa p m = true ∧ m.ths.length ≤ 1048576) : FiisRunning [S.agg (encProg false p), S.agg (encMa false m), S.one (C.int t)] = some (S.one (C.bool (running p m t)), [S.one C.unk, S.one C.unk, S.one C.unk]) := by
  obtain ⟨h1, h2⟩ := h
  have hw : W ((m.ths.length : Int) - 1) = (m.ths.length : Int) - 1 := W_eq (by omega) (by omega)
  rw [miisRunning]
  simp only [List.length_map, hw, Fiwithin_at, running]
  cases hi : inB t 0 ((m.ths.length : Int) - 1)
  · simp
  · have hi' := hi
    simp only [inB, Bool.and_eq_true, decide_eq_true_eq] at hi'
    obtain ⟨n, rfl⟩ := Int.eq_ofNat_of_zero_le hi'.1
    have hn : n < m.ths.length := by omega
    obtain ⟨hc, hth⟩ := isMa_th h1 hn
    simp [hn, hc]
theorem fold_cells {l : List Slot} : ∀ {c : List Int}, memOk c = true → (∀ s ∈ l, isV s.v = true) → memOk (l.foldl (fun c s => c.set s.a.toNat s.v) c) = true ∧ (l.foldl (fun c s => c.set s.a.toNat s.v) c).length = c.length := by
  induction l with
  | nil => intro c h _; exact ⟨h, rfl⟩
  | cons s l ih =>
    intro c h hs
    have := ih (c := c.set s.a.toNat s.v) (memOk_set h (hs s (by simp))) fun x hx => hs x (by simp [hx])
    exact ⟨this.1, by simpa using this.2⟩
theorem drAllOk_of {p : Prog} {m : Machine} {t : Nat} (hm : isMa p m = true) (ht : t < m.ths.length) : drAllOk m t ∧ isMa p (drainAllM m t) = true := by
  obtain ⟨hc, hth⟩ := isMa_th hm ht
  obtain ⟨hp, hv4, hvv, hbo, hbc⟩ := thOk_iff.1 hth
  obtain ⟨hmo, hml, _, _⟩ := isMa_iff.1 hm
  simp only [bufOk, slotOk, inB, Bool.and_eq_true, List.all_eq_true, decide_eq_true_eq] at hbo
  refine ⟨⟨_, List.getElem?_eq_getElem ht, by omega, fun s hs => ⟨(hbo.2 s hs).1.1, by have := hbc s hs; omega⟩⟩, ?_⟩
  obtain ⟨f1, f2⟩ := fold_cells (l := m.ths[t].buf) hmo fun s hs => (hbo.2 s hs).2
  have h5 := isMa_set hm (t := t) (th := { m.ths[t] with buf := [] }) fun _ => thOk_iff.2 ⟨hp, hv4, hvv, rfl, by simp⟩
  obtain ⟨q1, q2, q3, q4⟩ := isMa_iff.1 h5
  simp only [drainAllM, List.getElem?_eq_getElem ht]
  exact isMa_iff.2 ⟨f1, by simp only; omega, q3, q4⟩
def stepM (p : Prog) (m : Machine) (t : Nat) : Machine := drainAllM (execM p (drainAllM m t) t) t
theorem len_drainAll (m : Machine) (t : Nat) : (drainAllM m t).ths.length = m.ths.length := by
  unfold drainAllM
  split <;> simp
theorem exOk_step {p : Prog} {m : Machine} {t : Int} (hp : progOk p = true) (hm : isMa p m = true) (hr : running p m t = true) : 0 ≤ t ∧ t.toNat < m.ths.length ∧ exOk p (drainAllM m t.toNat) t.toNat := by
  simp only [running, inB, Bool.and_eq_true, decide_eq_true_eq] at hr
  obtain ⟨⟨h0, h1⟩, h2⟩ := hr
  have ht : t.toNat < m.ths.length := by omega
  obtain ⟨hc, hth⟩ := isMa_th hm ht
  rw [List.getElem?_eq_getElem ht, List.getElem?_eq_getElem hc] at h2
  simp only [decide_eq_true_eq] at h2
  have hpc := (thOk_iff.1 hth).1
  have hlt : m.ths[t.toNat].pc.toNat < p.codes[t.toNat].length := by omega
  refine ⟨h0, ht, hp, (drAllOk_of hm ht).2, p.codes[t.toNat][m.ths[t.toNat].pc.toNat], { m.ths[t.toNat] with buf := [] }, ?_, ?_, fun _ => by simp⟩
  · simp [instrAt, drainAllM, ht, hc, hlt]
  · simp [drainAllM, ht]
theorem step_ok {p : Prog} {m : Machine} {t : Int} (hp : progOk p = true) (hm : isMa p m = true) (hr : running p m t = true) :
    0 ≤ t ∧ drAllOk m t.toNat ∧ exOk p (drainAllM m t.toNat) t.toNat ∧ drAllOk (execM p (drainAllM m t.toNat) t.toNat) t.toNat ∧ isMa p (stepM p m t.toNat) = true := by
  obtain ⟨h0, ht, hx⟩ := exOk_step hp hm hr
  have h1 := isMa_exec hx
  have hl : t.toNat < (execM p (drainAllM m t.toNat) t.toNat).ths.length := by
    have h2 := (isMa_iff.1 h1).2.2.1
    have h3 := (isMa_iff.1 hm).2.2.1
    omega
  exact ⟨h0, (drAllOk_of hm ht).1, hx, (drAllOk_of h1 hl).1, (drAllOk_of h1 hl).2⟩
/-! istepped: loop.example/g00712/impl.stepped -/
noncomputable def Qistepped : Fx := ⟨Go.Proofs.Try.f110, [.ro, .ro, .ro], false, mkEnv tys_m7 [(107, SiMachine_own), (161, SiMachine_execute), (162, SiMachine_drainAll)] [(161, [.bx [.sl 1, .sl 3]]), (162, [.bx [.sl 1, .sl 3]])], fun _ => .stop, []⟩
noncomputable def Fistepped : List S → Option Res := veil Qistepped.run
noncomputable def Sistepped : Spec := ⟨[.ro, .ro, .ro], false, Fistepped⟩
theorem mistepped (x1 : Int) (x2 : List (List C)) (x3 : List (List C)) (x4 : List (List C)) (x5 : Int) : Fistepped [.agg [.int x1, .sl false none 1 x2], .agg [.sl false none 1 x3, .sl false none 3 x4], .one (.int x5)] = cV true [.sl 1, .sl 3] (FiMachine_own [.agg [.sl false none 1 x3, .sl false none 3 x4]]) fun o1 l1 o2 l2 => cOT [.bx [.sl 1, .sl 3]] [] (FiMachine_drainAll [.one (.bx [.sl true none 1 l1, .sl true none 3 l2]), .one (.int x5)]) fun o3 l3 o4 l4 => cOT [.bx [.sl 1, .sl 3]] [] (FiMachine_execute [.one (.bx [.sl true o3 1 l3, .sl true o4 3 l4]), .agg [.int x1, .sl false none 1 x2], .one (.int x5)]) fun o5 l5 o6 l6 => cOT [.bx [.sl 1, .sl 3]] [] (FiMachine_drainAll [.one (.bx [.sl true o5 1 l5, .sl true o6 3 l6]), .one (.int x5)]) fun o7 l7 o8 l8 => fr false 3 [.agg [.sl true none 1 l7, .sl true none 3 l8]] := Fx.eq (by kernel_rfl)
theorem okistepped : CalleeOk Go.Proofs.Try.prog 110 Sistepped := Fx.ok (F := Qistepped) follows (envTy_mk tys_m7_eq) (envSpec_of (specsOk_cons okiMachine_own (specsOk_cons okiMachine_execute (specsOk_cons okiMachine_drainAll specsOk_nil)))) Go.Proofs.Try.func110 (by kernel_rfl) (by kernel_rfl) (by rw [show subs Qistepped.code = [] by kernel_rfl]; trivial) (by kernel_rfl) (by kernel_rfl) rfl
theorem Fistepped_at (p : Prog) (m : Machine) (t : Int) (h : progOk p = true ∧ isMa p m = true ∧ running p m t = true) : Fistepped [S.agg (encProg false p), S.agg (encMa false m), S.one (C.int t)] = some (S.agg (encMa true (stepM p m t.toNat)), [S.one C.unk, S.one C.unk, S.one C.unk]) := by
  obtain ⟨h1, h2, h3⟩ := h
  obtain ⟨h0, d1, d2, d3, d4⟩ := step_ok h1 h2 h3
  obtain ⟨n, rfl⟩ := Int.eq_ofNat_of_zero_le h0
  simp only [Int.toNat_natCast] at d1 d2 d3 d4 ⊢
  rw [mistepped, FiMachine_own_at m (bT_of h1 h2)]
  simp [FiMachine_drainAll_at m n d1, FiMachine_execute_at p _ n d2, FiMachine_drainAll_at _ n d3, stepM]
def stepP (p : Prog) (m : Machine) (t : Int) : Bool := progOk p && isMa p m && running p m t
/-! iStepPlain: loop.example/g00712/impl.StepPlain -/
noncomputable def QiStepPlain : Fx := ⟨Go.Proofs.Try.f55, [.ro, .ro, .ro], false, mkEnv tys_m7 [(105, SiMachineOk), (107, SiMachine_own), (109, SiisRunning), (110, Sistepped)] [], fun _ => .stop, []⟩
noncomputable def FiStepPlain : List S → Option Res := veil QiStepPlain.run
noncomputable def SiStepPlain : Spec := ⟨[.ro, .ro, .ro], false, FiStepPlain⟩
theorem miStepPlain (x1 : Int) (x2 : List (List C)) (x3 : List (List C)) (x4 : List (List C)) (x5 : Int) : FiStepPlain [.agg [.int x1, .sl false none 1 x2], .agg [.sl false none 1 x3, .sl false none 3 x4], .one (.int x5)] = cV false [.bool] (FiMachineOk [.agg [.int x1, .sl false none 1 x2], .agg [.sl false none 1 x3, .sl false none 3 x4]]) fun b1 => bif !b1 then cV true [.sl 1, .sl 3] (FiMachine_own [.agg [.sl false none 1 x3, .sl false none 3 x4]]) fun o1 l1 o2 l2 => fr false 3 [.agg [.sl true none 1 l1, .sl true none 3 l2], .one (.bool false)] else cV false [.bool] (FiisRunning [.agg [.int x1, .sl false none 1 x2], .agg [.sl false none 1 x3, .sl false none 3 x4], .one (.int x5)]) fun b2 => bif !b2 then cV true [.sl 1, .sl 3] (FiMachine_own [.agg [.sl false none 1 x3, .sl false none 3 x4]]) fun o3 l3 o4 l4 => fr false 3 [.agg [.sl true none 1 l3, .sl true none 3 l4], .one (.bool false)] else cV true [.sl 1, .sl 3] (Fistepped [.agg [.int x1, .sl false none 1 x2], .agg [.sl false none 1 x3, .sl false none 3 x4], .one (.int x5)]) fun o5 l5 o6 l6 => fr false 3 [.agg [.sl true none 1 l5, .sl true none 3 l6], .one (.bool true)] := Fx.eq (by kernel_rfl)
theorem okiStepPlain : CalleeOk Go.Proofs.Try.prog 55 SiStepPlain := Fx.ok (F := QiStepPlain) follows (envTy_mk tys_m7_eq) (envSpec_of (specsOk_cons okiMachineOk (specsOk_cons okiMachine_own (specsOk_cons okiisRunning (specsOk_cons okistepped specsOk_nil))))) Go.Proofs.Try.func55 (by kernel_rfl) (by kernel_rfl) (by rw [show subs QiStepPlain.code = [] by kernel_rfl]; trivial) (by kernel_rfl) (by kernel_rfl) rfl
theorem FiStepPlain_at (p : Prog) (m : Machine) (t : Int) (h : bndL p.codes ∧ m.cells.length ≤ 1048576 ∧ bT m.ths) : FiStepPlain [S.agg (encProg false p), S.agg (encMa false m), S.one (C.int t)] = some (S.tup [S.agg (encMa true (bif stepP p m t then stepM p m t.toNat else m)), S.one (C.bool (stepP p m t))], [S.one C.unk, S.one C.unk, S.one C.unk]) := by
  obtain ⟨h1, h2, h3⟩ := h
  rw [miStepPlain, FiMachineOk_at p m ⟨h1, by omega, bndT_of h3⟩, FiMachine_own_at m ⟨h2, h3⟩]
  simp only [stepP]
  cases hp : progOk p
  · simp
  · cases hm : isMa p m
    · simp
    · rw [FiisRunning_at p m t ⟨hm, h3.1⟩]
      cases hr : running p m t
      · simp
      · simp [Fistepped_at p m t ⟨hp, hm, hr⟩]
def startM (p : Prog) : Machine := ⟨List.replicate p.cells.toNat 0, p.codes.map fun _ => ⟨0, [0, 0, 0, 0], []⟩⟩
theorem isMa_start {p : Prog} (hp : progOk p = true) : isMa p (startM p) = true := by
  simp only [progOk, inB, Bool.and_eq_true, decide_eq_true_eq] at hp
  refine isMa_iff.2 ⟨?_, by simp [startM]; omega, by simp [startM], fun i h1 h2 => ?_⟩
  · simp only [memOk, inB, startM, Bool.and_eq_true, decide_eq_true_eq, List.length_replicate, List.all_eq_true]
    refine ⟨by omega, fun x hx => ?_⟩
    rw [List.eq_of_mem_replicate hx]; rfl
  · simp only [startM, List.getElem_map]
    exact thOk_iff.2 ⟨⟨by simp, by simp⟩, rfl, by simp [isV, inB], rfl, by simp⟩
/-! istart: loop.example/g00712/impl.start -/
@[reducible] def histart_3 : Sh := ⟨[.one (.o (.pl 1 0 [])), .one (.o (.pl 4 0 [])), .one (.o (.i .i64)), .one (.o (.i .i64))], [(false, [.o (.i .i64), .o (.sl false 1)]), (false, [.o (.sl true 1), .o (.sl true 3)]), (true, [.o .u]), (true, [.o .u]), (false, [.o (.sl true 1), .o (.sl true 3)])]⟩
@[reducible] def xistart_3 : List (Ex × Sh) := [(.exit 0, ⟨[.one (.o (.pl 1 0 [])), .one (.o (.pl 4 0 []))], [(false, [.o (.i .i64), .o (.sl false 1)]), (false, [.o (.sl true 1), .o (.sl true 3)]), (true, [.o .u]), (true, [.o .u]), (false, [.o (.sl true 1), .o (.sl true 3)])]⟩)]
noncomputable def Ristart_3 : KC xistart_3 (histart_3.K → histart_3.K) := fun k0 nx v1 v2 v3 v4 v5 v6 v7 v8 v9 v10 v11 v12 v13 => bif decide (v2 < v1) then if (v13.length + 1) * 56 ≤ LIM then nx v1 (W (v2 + 1)) v3 v4 v5 v6 v7 v8 v9 v10 v11 none (v13 ++ [[.int 0, .sl true none 1 [[.int 0], [.int 0], [.int 0], [.int 0]], .sl true none 2 []]]) else none else k0 v3 v4 v5 v6 v7 v8 v9 v10 v11 v12 v13
noncomputable def Listart_3 : Lp := ⟨3, [2, 3, 11, 12], [2, 3], 5, 23, histart_3, xistart_3, Ristart_3⟩
noncomputable def Qistart : Fx := ⟨Go.Proofs.Try.f104, [.ro], false, mkEnv tys_m7 [] [], fun id => bif Nat.beq id 4 then .sq [0, 1, 2, 3, 4, 5, 6, 7] .stop else .stop, [Listart_3]⟩
noncomputable def Fistart : List S → Option Res := veil Qistart.run
noncomputable def Sistart : Spec := ⟨[.ro], false, Fistart⟩
theorem mistart (x1 : Int) (x2 : List (List C)) : Fistart [.agg [.int x1, .sl false none 1 x2]] = if 0 ≤ x1 ∧ x1 ≤ x1 ∧ x1 * 8 ≤ (LIM : Int) ∧ 0 < 1 then iterC (Ristart_3 (fun y1 y2 y3 y4 y5 y6 y7 y8 y9 y10 y11 => fr false 1 [.agg [.sl true none 1 y9, .sl true none 3 y11]])) FUEL (x2.length : Int) 0 x1 none x2 (some true) [] (some true) [] none (List.replicate (Int.toNat x1) [.int 0]) none [] else none := Fx.eq (by kernel_rfl)
theorem stistart_3 : Listart_3.Step Qistart.E Qistart.dr Qistart.lp ((findLoop 3 Qistart.code).getD .skip) := fun k nx v => by kernel_rfl
theorem okistart : CalleeOk Go.Proofs.Try.prog 104 Sistart := Fx.ok (F := Qistart) follows (envTy_mk tys_m7_eq) (envSpec_of (specsOk_nil)) Go.Proofs.Try.func104 (by kernel_rfl) (by kernel_rfl) (by
  rw [show subs Qistart.code = [(findLoop 3 Qistart.code).getD .skip] by kernel_rfl]
  exact ⟨stepAt_some (by kernel_rfl) stistart_3, trivial⟩) (by kernel_rfl) (by kernel_rfl) rfl
theorem Fistart_at (p : Prog) (h : progOk p = true) : Fistart [S.agg (encProg false p)] = some (S.agg (encMa true (startM p)), [S.one C.unk]) := by
  have hp := h
  simp only [progOk, inB, Bool.and_eq_true, decide_eq_true_eq] at hp
  have hrep : List.replicate (Int.toNat p.cells) [C.int 0] = (List.replicate p.cells.toNat (0 : Int)).map encInt := by rw [List.map_replicate]
  rw [mistart, if_pos (by unfold LIM; omega), hrep]
  refine (iter_fold (h := histart_3) p.codes (fun i (a : List Thread) f => f ((p.codes.map (encCode false)).length : Int) (i : Int) p.cells none (p.codes.map (encCode false)) (some true) [] (some true) [] none ((List.replicate p.cells.toNat (0 : Int)).map encInt) none (a.map (encTh true))) (fun a _ => a ++ [⟨0, [0, 0, 0, 0], []⟩]) (fun a => fr false 1 [.agg (encMa true ⟨List.replicate p.cells.toNat 0, a⟩)]) (fun i a => a.length = i) (by omega) ?_ ?_ [] rfl).trans ?_
  · intro nx a ha; simp [-List.map_replicate, Ristart_3]
  · intro nx i a hi ha hW
    refine ⟨by simp [ha], ?_⟩
    have hL : (a.length + 1) * 56 ≤ LIM := by unfold LIM; omega
    simp [-List.map_replicate, Ristart_3, hi, hW, hL]
    rfl
  · have hf : ∀ (l : List (List Instr)) (acc : List Thread), l.foldl (fun a _ => a ++ [(⟨0, [0, 0, 0, 0], []⟩ : Thread)]) acc = acc ++ l.map fun _ => ⟨0, [0, 0, 0, 0], []⟩ := by
      intro l
      induction l with
      | nil => simp
      | cons x l ih => intro acc; simp [ih]
    rw [hf]
    simp [-List.map_replicate, -List.map_map, startM]
end Go.Proofs.Gh.Gm
set_option linter.unusedVariables false
set_option linter.unusedSimpArgs false
set_option maxRecDepth 100000
set_option maxHeartbeats 2000000
namespace Go.Proofs.Gh.Gm
def tys_m8 : List (Nat × TI) := []
theorem tys_m8_eq : tys_m8.map (fun x => tiOf Go.Proofs.Try.prog x.1 x.2.cks) = tys_m8.map fun x => some x.2 := by kernel_rfl
def runF (p : Prog) (a : Machine × Nat) (mv : Move) : Machine × Nat := bif canMv p a.1 mv.t mv.drain then (mvM p a.1 mv.t mv.drain, a.2 + 1) else a
def runM (p : Prog) (mvs : List Move) : Machine × Nat := bif !progOk p || decide (mvs.length > 300) then (⟨[], []⟩, 0) else mvs.foldl (runF p) (startM p, 0)
end Go.Proofs.Gh.Gm
set_option linter.unusedVariables false
set_option linter.unusedSimpArgs false
set_option maxRecDepth 100000
set_option maxHeartbeats 2000000
namespace Go.Proofs.Gh.Gm
def tys_m9 : List (Nat × TI) := [(3, ⟨false, 8, [.int .i64], [.int 0], .scalar, false, none⟩),
  (4, ⟨false, 1, [.bool], [.bool false], .scalar, false, none⟩),
  (23, ⟨false, 24, [.sl 1], [.sl true (some true) 1 []], .slice 3, false, none⟩),
  (71, ⟨true, 24, [.sl 1], [.sl true (some true) 1 []], .struct [(0, 1, false)], false, none⟩),
  (72, ⟨false, 24, [.sl 3], [.sl true (some true) 3 []], .slice 84, false, none⟩),
  (74, ⟨true, 48, [.sl 1, .sl 3], [.sl true (some true) 1 [], .sl true (some true) 3 []], .struct [(0, 1, true), (1, 1, false)], false, none⟩),
  (82, ⟨false, 24, [.sl 2], [.sl true (some true) 2 []], .slice 144, false, none⟩),
  (84, ⟨true, 56, [.int .i64, .sl 1, .sl 2], [.int 0, .sl true (some true) 1 [], .sl true (some true) 2 []], .struct [(0, 1, false), (1, 1, false), (2, 1, false)], false, none⟩),
  (135, ⟨true, 32, [.int .i64, .int .i64, .int .i64, .int .i64], [.int 0, .int 0, .int 0, .int 0], .struct [(0, 1, false), (1, 1, false), (2, 1, false), (3, 1, false)], true, none⟩),
  (144, ⟨true, 16, [.int .i64, .int .i64], [.int 0, .int 0], .struct [(0, 1, false), (1, 1, false)], true, none⟩)]
theorem tys_m9_eq : tys_m9.map (fun x => tiOf Go.Proofs.Try.prog x.1 x.2.cks) = tys_m9.map fun x => some x.2 := by kernel_rfl
/-! sMemOk: loop.example/g00712/spec.MemOk -/
@[reducible] def hsMemOk_4 : Sh := ⟨[.one (.o (.pl 0 0 [])), .one (.o (.i .i64))], [(false, [.o (.sl false 1)])]⟩
@[reducible] def xsMemOk_4 : List (Ex × Sh) := [(.ret, ⟨[.one (.o .b)], [(false, [.o (.sl false 1)])]⟩), (.exit 0, ⟨[.one (.o .u)], [(false, [.o (.sl false 1)])]⟩)]
noncomputable def RsMemOk_4 : KC xsMemOk_4 (hsMemOk_4.K → hsMemOk_4.K) := fun k0 k1 nx v1 v2 v3 => bif decide (v1 < (v3.length : Int)) then ix v1 v3 ((v3[Int.toNat v1]?).bind fun w1 => tRo [.int .i64] w1 fun n1 => cV false [.bool] (Fsl01Value [.one (.int n1)]) fun b2 => bif !b2 then k0 false v2 v3 else nx (W (v1 + 1)) v2 v3) else k1 v2 v3
noncomputable def LsMemOk_4 : Lp := ⟨4, [1, 3], [2], 1, 23, hsMemOk_4, xsMemOk_4, RsMemOk_4⟩
noncomputable def QsMemOk : Fx := ⟨Go.Proofs.Try.f113, [.ro], false, mkEnv tys_m9 [(115, Ssl01Value), (63, Ssl01In)] [], fun _ => .stop, [LsMemOk_4]⟩
noncomputable def FsMemOk : List S → Option Res := veil QsMemOk.run
noncomputable def SsMemOk : Spec := ⟨[.ro], false, FsMemOk⟩
theorem msMemOk (x1 : List (List C)) : FsMemOk [.agg [.sl false none 1 x1]] = cV false [.bool] (Fsl01In [.one (.int (x1.length : Int)), .one (.int 1), .one (.int 16)]) fun b1 => bif !b1 then fr false 1 [.one (.bool false)] else iterC (RsMemOk_4 (fun y1 y2 y3 => fr false 1 [.one (.bool y1)]) (fun y4 y5 => fr false 1 [.one (.bool true)])) FUEL 0 none x1 := Fx.eq (by kernel_rfl)
theorem stsMemOk_4 : LsMemOk_4.Step QsMemOk.E QsMemOk.dr QsMemOk.lp ((findLoop 4 QsMemOk.code).getD .skip) := fun k nx v => by kernel_rfl
theorem oksMemOk : CalleeOk Go.Proofs.Try.prog 113 SsMemOk := Fx.ok (F := QsMemOk) follows (envTy_mk tys_m9_eq) (envSpec_of (specsOk_cons oksl01Value (specsOk_cons oksl01In specsOk_nil))) Go.Proofs.Try.func113 (by kernel_rfl) (by kernel_rfl) (by
  rw [show subs QsMemOk.code = [(findLoop 4 QsMemOk.code).getD .skip] by kernel_rfl]
  exact ⟨stepAt_some (by kernel_rfl) stsMemOk_4, trivial⟩) (by kernel_rfl) (by kernel_rfl) rfl
theorem FsMemOk_at (l : List Int) (h : smallL l) : FsMemOk [S.agg [C.sl false none 1 (l.map encInt)]] = some (S.one (C.bool (memOk l)), [S.one C.unk]) := by
  rw [msMemOk, Fsl01In_at]
  simp only [List.length_map, memOk]
  cases inB (l.length : Int) 1 16
  · simp
  · simp only [cV, Option.bind_some, tOne, tRes, id, tOwn, Bool.not_true, cond_false, Bool.true_and]
    refine (iter_all (h := hsMemOk_4) l (fun i f => f (i : Int) none (l.map encInt)) isV (fr false 1 [.one (.bool true)]) (fr false 1 [.one (.bool false)]) (by omega) ?_ ?_).trans ?_
    · intro nx; simp [RsMemOk_4]
    · intro nx i hi hW
      simp [RsMemOk_4, hi, hW, Fsl01Value_at]
      try (cases isV l[i] <;> simp)
    · cases l.all isV <;> simp
/-! sBufOk: loop.example/g00712/spec.BufOk -/
@[reducible] def hsBufOk_4 : Sh := ⟨[.one (.o (.sl false 2)), .one (.o (.i .i64))], []⟩
@[reducible] def xsBufOk_4 : List (Ex × Sh) := [(.ret, ⟨[.one (.o .b)], []⟩), (.exit 0, ⟨[.one (.o .u)], []⟩)]
noncomputable def RsBufOk_4 : KC xsBufOk_4 (hsBufOk_4.K → hsBufOk_4.K) := fun k0 k1 nx v1 v2 v3 => bif decide (v3 < (v2.length : Int)) then ix v3 v2 ((v2[Int.toNat v3]?).bind fun w1 => tRo [.int .i64] w1 fun n1 => cV false [.bool] (Fsl01In [.one (.int n1), .one (.int 0), .one (.int 15)]) fun b1 => bif !b1 then k0 false else ix v3 v2 ((v2[Int.toNat v3]?).bind fun w2 => tRo [.int .i64] (List.drop 1 w2) fun n2 => cV false [.bool] (Fsl01Value [.one (.int n2)]) fun b2 => bif !b2 then k0 false else nx v1 v2 (W (v3 + 1)))) else k1
noncomputable def LsBufOk_4 : Lp := ⟨4, [0, 3], [2], 0, 29, hsBufOk_4, xsBufOk_4, RsBufOk_4⟩
noncomputable def QsBufOk : Fx := ⟨Go.Proofs.Try.f114, [.ro], false, mkEnv tys_m9 [(115, Ssl01Value), (63, Ssl01In)] [], fun _ => .stop, [LsBufOk_4]⟩
noncomputable def FsBufOk : List S → Option Res := veil QsBufOk.run
noncomputable def SsBufOk : Spec := ⟨[.ro], false, FsBufOk⟩
theorem msBufOk (x1 : Option Bool) (x2 : List (List C)) : FsBufOk [.one (.sl false x1 2 x2)] = bif decide ((x2.length : Int) > 3) then fr false 1 [.one (.bool false)] else iterC (RsBufOk_4 (fun y1 => fr false 1 [.one (.bool y1)]) (fr false 1 [.one (.bool true)])) FUEL x1 x2 0 := Fx.eq (by kernel_rfl)
theorem stsBufOk_4 : LsBufOk_4.Step QsBufOk.E QsBufOk.dr QsBufOk.lp ((findLoop 4 QsBufOk.code).getD .skip) := fun k nx v => by kernel_rfl
theorem oksBufOk : CalleeOk Go.Proofs.Try.prog 114 SsBufOk := Fx.ok (F := QsBufOk) follows (envTy_mk tys_m9_eq) (envSpec_of (specsOk_cons oksl01Value (specsOk_cons oksl01In specsOk_nil))) Go.Proofs.Try.func114 (by kernel_rfl) (by kernel_rfl) (by
  rw [show subs QsBufOk.code = [(findLoop 4 QsBufOk.code).getD .skip] by kernel_rfl]
  exact ⟨stepAt_some (by kernel_rfl) stsBufOk_4, trivial⟩) (by kernel_rfl) (by kernel_rfl) rfl
theorem FsBufOk_at (nl : Option Bool) (b : List Slot) (h : smallL b) : FsBufOk [S.one (C.sl false nl 2 (b.map encSlot))] = some (S.one (C.bool (bufOk b)), [S.one C.unk]) := by
  rw [msBufOk]
  simp only [bufOk]
  by_cases hl : b.length ≤ 3
  · have hl' : ¬ ((b.map encSlot).length : Int) > 3 := by simp; omega
    simp only [hl, hl', decide_true, decide_false, cond_false, Bool.true_and]
    refine (iter_all (h := hsBufOk_4) b (fun i f => f nl (b.map encSlot) (i : Int)) slotOk (fr false 1 [.one (.bool true)]) (fr false 1 [.one (.bool false)]) (by omega) ?_ ?_).trans ?_
    · intro nx; simp [RsBufOk_4]
    · intro nx i hi hW
      simp [RsBufOk_4, hi, hW, Fsl01Value_at, Fsl01In_at, slotOk]
      cases inB b[i].a 0 15 <;> simp
      try (cases isV b[i].v <;> simp)
    · cases b.all slotOk <;> simp
  · have hl' : (3 : Int) < (b.length : Int) := by omega
    simp [hl, hl']
/-! sHasFence: loop.example/g00712/spec.HasFence -/
noncomputable def QsHasFence : Fx := ⟨Go.Proofs.Try.f165, [.ro], false, mkEnv tys_m9 [] [], fun _ => .stop, []⟩
noncomputable def FsHasFence : List S → Option Res := veil QsHasFence.run
noncomputable def SsHasFence : Spec := ⟨[.ro], false, FsHasFence⟩
theorem msHasFence (x1 : Int) (x2 : Int) (x3 : Int) (x4 : Int) : FsHasFence [.agg [.int x1, .int x2, .int x3, .int x4]] = bif x1 == 4 then fr false 1 [.one (.bool true)] else bif x1 == 5 then fr false 1 [.one (.bool true)] else fr false 1 [.one (.bool (x1 == 7))] := Fx.eq (by kernel_rfl)
theorem oksHasFence : CalleeOk Go.Proofs.Try.prog 165 SsHasFence := Fx.ok (F := QsHasFence) follows (envTy_mk tys_m9_eq) (envSpec_of (specsOk_nil)) Go.Proofs.Try.func165 (by kernel_rfl) (by kernel_rfl) (by rw [show subs QsHasFence.code = [] by kernel_rfl]; trivial) (by kernel_rfl) (by kernel_rfl) rfl
theorem FsHasFence_at (i : Instr) : FsHasFence [S.agg (encInstr i)] = some (S.one (C.bool (fenceI i)), [S.one C.unk]) := by
  simp only [msHasFence, fenceI]
  cases (i.op == 4) <;> cases (i.op == 5) <;> simp
/-! sl01Copy: loop.example/g00712/spec.l01Copy -/
@[reducible] def hsl01Copy_3 : Sh := ⟨[.one (.o (.sl false 1)), .one (.o (.al 2 0 [])), .one (.o (.i .i64))], [(true, [.o .u]), (true, [.o .u]), (true, [.o (.sl true 1)])]⟩
@[reducible] def xsl01Copy_3 : List (Ex × Sh) := [(.exit 0, ⟨[.one (.o (.al 2 0 []))], [(true, [.o .u]), (true, [.o .u]), (true, [.o (.sl true 1)])]⟩)]
noncomputable def Rsl01Copy_3 : KC xsl01Copy_3 (hsl01Copy_3.K → hsl01Copy_3.K) := fun k0 nx v1 v2 v3 v4 v5 => bif decide (v3 < (v2.length : Int)) then ix v3 v2 ((v2[Int.toNat v3]?).bind fun w1 => tRo [.int .i64] w1 fun n1 => if (v5.length + 1) * 8 ≤ LIM then nx v1 v2 (W (v3 + 1)) (apNl v4 [[]]) (v5 ++ [[.int n1]]) else none) else k0 v4 v5
noncomputable def Lsl01Copy_3 : Lp := ⟨3, [0, 3, 4], [3], 2, 20, hsl01Copy_3, xsl01Copy_3, Rsl01Copy_3⟩
noncomputable def Qsl01Copy : Fx := ⟨Go.Proofs.Try.f126, [.ro], false, mkEnv tys_m9 [] [], fun _ => .stop, [Lsl01Copy_3]⟩
noncomputable def Fsl01Copy : List S → Option Res := veil Qsl01Copy.run
noncomputable def Ssl01Copy : Spec := ⟨[.ro], false, Fsl01Copy⟩
theorem msl01Copy (x1 : Option Bool) (x2 : List (List C)) : Fsl01Copy [.one (.sl false x1 1 x2)] = iterC (Rsl01Copy_3 (fun y1 y2 => fr false 1 [.one (.sl true y1 1 y2)])) FUEL x1 x2 0 (some false) [] := Fx.eq (by kernel_rfl)
theorem stsl01Copy_3 : Lsl01Copy_3.Step Qsl01Copy.E Qsl01Copy.dr Qsl01Copy.lp ((findLoop 3 Qsl01Copy.code).getD .skip) := fun k nx v => by kernel_rfl
theorem oksl01Copy : CalleeOk Go.Proofs.Try.prog 126 Ssl01Copy := Fx.ok (F := Qsl01Copy) follows (envTy_mk tys_m9_eq) (envSpec_of (specsOk_nil)) Go.Proofs.Try.func126 (by kernel_rfl) (by kernel_rfl) (by
  rw [show subs Qsl01Copy.code = [(findLoop 3 Qsl01Copy.code).getD .skip] by kernel_rfl]
  exact ⟨stepAt_some (by kernel_rfl) stsl01Copy_3, trivial⟩) (by kernel_rfl) (by kernel_rfl) rfl
theorem Fsl01Copy_at (nl : Option Bool) (l : List Int) (h : l.length ≤ 1048576) : Fsl01Copy [S.one (C.sl false nl 1 (l.map encInt))] = some (S.one (C.sl true (some false) 1 (l.map encInt)), [S.one C.unk]) := by
  rw [msl01Copy]
  refine (iter_fold (h := hsl01Copy_3) l (fun i (a : List Int) f => f nl (l.map encInt) (i : Int) (some false) (a.map encInt)) (fun a x => a ++ [x]) (fun a => fr false 1 [.one (.sl true (some false) 1 (a.map encInt))]) (fun i a => a.length = i) (by omega) ?_ ?_ [] rfl).trans ?_
  · intro nx a ha; simp [Rsl01Copy_3]
  · intro nx i a hi ha hW
    refine ⟨by simp [ha], ?_⟩
    have hL : (a.length + 1) * 8 ≤ LIM := by unfold LIM; omega
    simp [Rsl01Copy_3, hi, hW, hL, apNl]
  · rw [foldl_snoc]; simp
/-! sl03Copy: loop.example/g00712/spec.l03Copy -/
@[reducible] def hsl03Copy_3 : Sh := ⟨[.one (.o (.sl false 2)), .one (.o (.al 2 0 [])), .one (.o (.i .i64))], [(true, [.o .u]), (true, [.o .u]), (true, [.o (.sl true 2)])]⟩
@[reducible] def xsl03Copy_3 : List (Ex × Sh) := [(.exit 0, ⟨[.one (.o (.al 2 0 []))], [(true, [.o .u]), (true, [.o .u]), (true, [.o (.sl true 2)])]⟩)]
noncomputable def Rsl03Copy_3 : KC xsl03Copy_3 (hsl03Copy_3.K → hsl03Copy_3.K) := fun k0 nx v1 v2 v3 v4 v5 => bif decide (v3 < (v2.length : Int)) then ix v3 v2 ((v2[Int.toNat v3]?).bind fun w1 => tRo [.int .i64, .int .i64] w1 fun n1 n2 => if (v5.length + 1) * 16 ≤ LIM then nx v1 v2 (W (v3 + 1)) (apNl v4 [[]]) (v5 ++ [[.int n1, .int n2]]) else none) else k0 v4 v5
noncomputable def Lsl03Copy_3 : Lp := ⟨3, [0, 3, 4], [3], 2, 20, hsl03Copy_3, xsl03Copy_3, Rsl03Copy_3⟩
noncomputable def Qsl03Copy : Fx := ⟨Go.Proofs.Try.f212, [.ro], false, mkEnv tys_m9 [] [], fun _ => .stop, [Lsl03Copy_3]⟩
noncomputable def Fsl03Copy : List S → Option Res := veil Qsl03Copy.run
noncomputable def Ssl03Copy : Spec := ⟨[.ro], false, Fsl03Copy⟩
theorem msl03Copy (x1 : Option Bool) (x2 : List (List C)) : Fsl03Copy [.one (.sl false x1 2 x2)] = iterC (Rsl03Copy_3 (fun y1 y2 => fr false 1 [.one (.sl true y1 2 y2)])) FUEL x1 x2 0 (some false) [] := Fx.eq (by kernel_rfl)
theorem stsl03Copy_3 : Lsl03Copy_3.Step Qsl03Copy.E Qsl03Copy.dr Qsl03Copy.lp ((findLoop 3 Qsl03Copy.code).getD .skip) := fun k nx v => by kernel_rfl
theorem oksl03Copy : CalleeOk Go.Proofs.Try.prog 212 Ssl03Copy := Fx.ok (F := Qsl03Copy) follows (envTy_mk tys_m9_eq) (envSpec_of (specsOk_nil)) Go.Proofs.Try.func212 (by kernel_rfl) (by kernel_rfl) (by
  rw [show subs Qsl03Copy.code = [(findLoop 3 Qsl03Copy.code).getD .skip] by kernel_rfl]
  exact ⟨stepAt_some (by kernel_rfl) stsl03Copy_3, trivial⟩) (by kernel_rfl) (by kernel_rfl) rfl
theorem Fsl03Copy_at (nl : Option Bool) (b : List Slot) (h : b.length ≤ 1048576) : Fsl03Copy [S.one (C.sl false nl 2 (b.map encSlot))] = some (S.one (C.sl true (some false) 2 (b.map encSlot)), [S.one C.unk]) := by
  rw [msl03Copy]
  refine (iter_fold (h := hsl03Copy_3) b (fun i (a : List Slot) f => f nl (b.map encSlot) (i : Int) (some false) (a.map encSlot)) (fun a x => a ++ [x]) (fun a => fr false 1 [.one (.sl true (some false) 2 (a.map encSlot))]) (fun i a => a.length = i) (by omega) ?_ ?_ [] rfl).trans ?_
  · intro nx a ha; simp [Rsl03Copy_3]
  · intro nx i a hi ha hW
    refine ⟨by simp [ha], ?_⟩
    have hL : (a.length + 1) * 16 ≤ LIM := by unfold LIM; omega
    simp [Rsl03Copy_3, hi, hW, hL, apNl]
  · rw [foldl_snoc]; simp
/-! sl03Mem: loop.example/g00712/spec.l03Mem -/
noncomputable def Qsl03Mem : Fx := ⟨Go.Proofs.Try.f211, [.ro], false, mkEnv tys_m9 [(126, Ssl01Copy)] [], fun _ => .stop, []⟩
noncomputable def Fsl03Mem : List S → Option Res := veil Qsl03Mem.run
noncomputable def Ssl03Mem : Spec := ⟨[.ro], false, Fsl03Mem⟩
theorem msl03Mem (x1 : List (List C)) : Fsl03Mem [.agg [.sl false none 1 x1]] = cV false [.sl 1] (Fsl01Copy [.one (.sl false none 1 x1)]) fun o1 l1 => fr false 1 [.agg [.sl true none 1 l1]] := Fx.eq (by kernel_rfl)
theorem oksl03Mem : CalleeOk Go.Proofs.Try.prog 211 Ssl03Mem := Fx.ok (F := Qsl03Mem) follows (envTy_mk tys_m9_eq) (envSpec_of (specsOk_cons oksl01Copy specsOk_nil)) Go.Proofs.Try.func211 (by kernel_rfl) (by kernel_rfl) (by rw [show subs Qsl03Mem.code = [] by kernel_rfl]; trivial) (by kernel_rfl) (by kernel_rfl) rfl
theorem Fsl03Mem_at (l : List Int) (h : l.length ≤ 1048576) : Fsl03Mem [S.agg [C.sl false none 1 (l.map encInt)]] = some (S.agg [C.sl true none 1 (l.map encInt)], [S.one C.unk]) := by
  rw [msl03Mem, Fsl01Copy_at _ _ h]
  simp
/-! sl04Copy: loop.example/g00712/spec.l04Copy -/
@[reducible] def hsl04Copy_3 : Sh := ⟨[.one (.o (.pl 0 0 [])), .one (.o (.pl 1 0 [])), .one (.o (.pl 4 0 [])), .one (.o (.i .i64))], [(false, [.o (.sl false 1), .o (.sl false 3)]), (false, [.o (.sl true 1), .o (.sl true 3)]), (true, [.o .u]), (true, [.o .u]), (false, [.o (.sl true 1), .o (.sl true 3)])]⟩
@[reducible] def xsl04Copy_3 : List (Ex × Sh) := [(.exit 0, ⟨[.one (.o (.pl 1 0 [])), .one (.o (.pl 4 0 []))], [(false, [.o (.sl false 1), .o (.sl false 3)]), (false, [.o (.sl true 1), .o (.sl true 3)]), (true, [.o .u]), (true, [.o .u]), (false, [.o (.sl true 1), .o (.sl true 3)])]⟩)]
noncomputable def Rsl04Copy_3 : KC xsl04Copy_3 (hsl04Copy_3.K → hsl04Copy_3.K) := fun k0 nx v1 v2 v3 v4 v5 v6 v7 v8 v9 v10 v11 v12 v13 => bif decide (v1 < (v5.length : Int)) then ix v1 v5 ((v5[Int.toNat v1]?).bind fun w1 => tRo [.int .i64] w1 fun n1 => ix v1 v5 ((v5[Int.toNat v1]?).bind fun w2 => tRo [.sl 1] (List.drop 1 w2) fun _ l2 => ix v1 v5 ((v5[Int.toNat v1]?).bind fun w3 => tRo [.sl 2] (List.drop 2 w3) fun _ l3 => cV false [.sl 1] (Fsl01Copy [.one (.sl false none 1 l2)]) fun o2 l4 => cV false [.sl 2] (Fsl03Copy [.one (.sl false none 2 l3)]) fun o3 l5 => if (v13.length + 1) * 56 ≤ LIM then nx (W (v1 + 1)) v2 v3 v4 v5 v6 v7 v8 v9 v10 v11 none (v13 ++ [[.int n1, .sl true none 1 l4, .sl true none 2 l5]]) else none))) else k0 v2 v3 v4 v5 v6 v7 v8 v9 v10 v11 v12 v13
noncomputable def Lsl04Copy_3 : Lp := ⟨3, [1, 2, 3, 4], [2, 3], 5, 43, hsl04Copy_3, xsl04Copy_3, Rsl04Copy_3⟩
noncomputable def Qsl04Copy : Fx := ⟨Go.Proofs.Try.f208, [.ro], false, mkEnv tys_m9 [(126, Ssl01Copy), (211, Ssl03Mem), (212, Ssl03Copy)] [], fun id => bif Nat.beq id 5 then .sq [0, 1, 2, 3, 4, 5, 6, 7, 8, 9, 10, 11, 12, 13, 15, 16, 17, 18, 19, 20, 14, 21, 22, 23, 24, 25, 26] .stop else .stop, [Lsl04Copy_3]⟩
noncomputable def Fsl04Copy : List S → Option Res := veil Qsl04Copy.run
noncomputable def Ssl04Copy : Spec := ⟨[.ro], false, Fsl04Copy⟩
theorem msl04Copy (x1 : List (List C)) (x2 : List (List C)) : Fsl04Copy [.agg [.sl false none 1 x1, .sl false none 3 x2]] = cV true [.sl 1] (Fsl03Mem [.agg [.sl false none 1 x1]]) fun o1 l1 => iterC (Rsl04Copy_3 (fun y1 y2 y3 y4 y5 y6 y7 y8 y9 y10 y11 y12 => fr false 1 [.agg [.sl true none 1 y10, .sl true none 3 y12]])) FUEL 0 none x1 none x2 (some true) [] (some true) [] none l1 none [] := Fx.eq (by kernel_rfl)
theorem stsl04Copy_3 : Lsl04Copy_3.Step Qsl04Copy.E Qsl04Copy.dr Qsl04Copy.lp ((findLoop 3 Qsl04Copy.code).getD .skip) := fun k nx v => by kernel_rfl
theorem oksl04Copy : CalleeOk Go.Proofs.Try.prog 208 Ssl04Copy := Fx.ok (F := Qsl04Copy) follows (envTy_mk tys_m9_eq) (envSpec_of (specsOk_cons oksl01Copy (specsOk_cons oksl03Mem (specsOk_cons oksl03Copy specsOk_nil)))) Go.Proofs.Try.func208 (by kernel_rfl) (by kernel_rfl) (by
  rw [show subs Qsl04Copy.code = [(findLoop 3 Qsl04Copy.code).getD .skip] by kernel_rfl]
  exact ⟨stepAt_some (by kernel_rfl) stsl04Copy_3, trivial⟩) (by kernel_rfl) (by kernel_rfl) rfl
theorem Fsl04Copy_at (m : Machine) (h : m.cells.length ≤ 1048576 ∧ bT m.ths) : Fsl04Copy [S.agg (encMa false m)] = some (S.agg (encMa true m), [S.one C.unk]) := by
  obtain ⟨cells, ths⟩ := m
  obtain ⟨h1, h2, h3⟩ := h
  simp only at h1 h2 h3
  rw [msl04Copy, Fsl03Mem_at _ h1]
  simp only [cV, Option.bind_some, tOne, tOwn, tRes, id]
  refine (iter_fold (h := hsl04Copy_3) ths (fun i (a : List Thread) f => f (i : Int) none (cells.map encInt) none (ths.map (encTh false)) (some true) [] (some true) [] none (cells.map encInt) none (a.map (encTh true))) (fun a t => a ++ [t]) (fun a => fr false 1 [.agg (encMa true ⟨cells, a⟩)]) (fun i a => a.length = i) (by omega) ?_ ?_ [] rfl).trans ?_
  · intro nx a ha; simp [Rsl04Copy_3]
  · intro nx i a hi ha hW
    have ht := h3 _ (List.getElem_mem hi)
    refine ⟨by simp [ha], ?_⟩
    have hL : (a.length + 1) * 56 ≤ LIM := by unfold LIM; omega
    simp [Rsl04Copy_3, hi, hW, Fsl01Copy_at _ _ ht.1, Fsl03Copy_at _ _ ht.2, hL]
  · rw [foldl_snoc]; simp
/-! sClamp: loop.example/g00712/spec.Clamp -/
noncomputable def QsClamp : Fx := ⟨Go.Proofs.Try.f209, [.ro], false, mkEnv tys_m9 [] [], fun _ => .stop, []⟩
noncomputable def FsClamp : List S → Option Res := veil QsClamp.run
noncomputable def SsClamp : Spec := ⟨[.ro], false, FsClamp⟩
theorem msClamp (x1 : Int) : FsClamp [.one (.int x1)] = bif decide (x1 > 1000000) then fr false 1 [.one (.int 1000000)] else bif decide (x1 < (-1000000)) then fr false 1 [.one (.int (-1000000))] else fr false 1 [.one (.int x1)] := Fx.eq (by kernel_rfl)
theorem oksClamp : CalleeOk Go.Proofs.Try.prog 209 SsClamp := Fx.ok (F := QsClamp) follows (envTy_mk tys_m9_eq) (envSpec_of (specsOk_nil)) Go.Proofs.Try.func209 (by kernel_rfl) (by kernel_rfl) (by rw [show subs QsClamp.code = [] by kernel_rfl]; trivial) (by kernel_rfl) (by kernel_rfl) rfl
theorem FsClamp_at (n : Int) : FsClamp [S.one (C.int n)] = some (S.one (C.int (clamp n)), [S.one C.unk]) := by
  rw [msClamp]
  have e : clamp n = if n > 1000000 then 1000000 else if n < -1000000 then -1000000 else n := by
    unfold clamp
    by_cases h1 : -1000000 < n <;> by_cases h2 : n < 1000000 <;> simp [h1, h2] <;> omega
  rw [e]
  by_cases h1 : n > 1000000 <;> by_cases h2 : n < -1000000 <;> simp [h1, h2]
/-! sPeek: loop.example/g00712/spec.Peek -/
noncomputable def QsPeek : Fx := ⟨Go.Proofs.Try.f213, [.ro, .ro], false, mkEnv tys_m9 [(113, SsMemOk), (63, Ssl01In)] [], fun _ => .stop, []⟩
noncomputable def FsPeek : List S → Option Res := veil QsPeek.run
noncomputable def SsPeek : Spec := ⟨[.ro, .ro], false, FsPeek⟩
theorem msPeek (x1 : List (List C)) (x2 : Int) : FsPeek [.agg [.sl false none 1 x1], .one (.int x2)] = cV false [.bool] (FsMemOk [.agg [.sl false none 1 x1]]) fun b1 => bif !b1 then fr false 2 [.one (.int 0)] else cV false [.bool] (Fsl01In [.one (.int x2), .one (.int 0), .one (.int (W ((x1.length : Int) - 1)))]) fun b2 => bif !b2 then fr false 2 [.one (.int 0)] else ix x2 x1 ((x1[Int.toNat x2]?).bind fun w1 => tRo [.int .i64] w1 fun n1 => fr false 2 [.one (.int n1)]) := Fx.eq (by kernel_rfl)
theorem oksPeek : CalleeOk Go.Proofs.Try.prog 213 SsPeek := Fx.ok (F := QsPeek) follows (envTy_mk tys_m9_eq) (envSpec_of (specsOk_cons oksMemOk (specsOk_cons oksl01In specsOk_nil))) Go.Proofs.Try.func213 (by kernel_rfl) (by kernel_rfl) (by rw [show subs QsPeek.code = [] by kernel_rfl]; trivial) (by kernel_rfl) (by kernel_rfl) rfl
theorem FsPeek_at (l : List Int) (a : Int) (h : l.length ≤ 1048576 ∧ memOk l = true ∧ 0 ≤ a ∧ a < l.length) : FsPeek [S.agg [C.sl false none 1 (l.map encInt)], S.one (C.int a)] = some (S.one (C.int (l[a.toNat]?.getD 0)), [S.one C.unk, S.one C.unk]) := by
  obtain ⟨h1, h2, h3, h4⟩ := h
  obtain ⟨n, rfl⟩ := Int.eq_ofNat_of_zero_le h3
  have hn : n < l.length := by omega
  have hw : W ((l.length : Int) - 1) = (l.length : Int) - 1 := W_eq (by omega) (by omega)
  have e : inB (n : Int) 0 ((l.length : Int) - 1) = true := by simp [inB]; omega
  simp [msPeek, FsMemOk_at _ (show smallL l by omega), Fsl01In_at, h2, e, hn, hw]
end Go.Proofs.Gh.Gm
set_option linter.unusedVariables false
set_option linter.unusedSimpArgs false
set_option maxRecDepth 100000
set_option maxHeartbeats 2000000
namespace Go.Proofs.Gh.Gm
def tys_m10 : List (Nat × TI) := [(3, ⟨false, 8, [.int .i64], [.int 0], .scalar, false, none⟩),
  (4, ⟨false, 1, [.bool], [.bool false], .scalar, false, none⟩),
  (5, ⟨false, 1, [.int .u8], [.v (.int .u8 0)], .scalar, false, none⟩),
  (9, ⟨false, 16, [.str], [.str ByteArray.empty], .scalar, false, none⟩),
  (135, ⟨true, 32, [.int .i64, .int .i64, .int .i64, .int .i64], [.int 0, .int 0, .int 0, .int 0], .struct [(0, 1, false), (1, 1, false), (2, 1, false), (3, 1, false)], true, none⟩),
  (212, ⟨false, 24, [.sl 1], [.sl true (some true) 1 []], .slice 9, false, none⟩)]
theorem tys_m10_eq : tys_m10.map (fun x => tiOf Go.Proofs.Try.prog x.1 x.2.cks) = tys_m10.map fun x => some x.2 := by kernel_rfl
def formS (op : Int) : List UInt8 := (([[114, 110], [114, 115], [114, 110], [114, 110], [], [114, 115, 110], [114, 110], [114, 115, 110], [114, 115]] : List (List UInt8))[op.toNat]?).getD []
/-! sl02Form: loop.example/g00712/spec.l02Form -/
noncomputable def Qsl02Form : Fx := ⟨Go.Proofs.Try.f176, [.ro], false, mkEnv tys_m10 [(63, Ssl01In)] [], fun _ => .stop, []⟩
noncomputable def Fsl02Form : List S → Option Res := veil Qsl02Form.run
noncomputable def Ssl02Form : Spec := ⟨[.ro], false, Fsl02Form⟩
theorem msl02Form (x1 : Int) : Fsl02Form [.one (.int x1)] = cV false [.bool] (Fsl01In [.one (.int x1), .one (.int 0), .one (.int 8)]) fun b1 => bif !b1 then fr false 1 [.one (.str (ByteArray.mk #[63]))] else ix x1 [[.str (ByteArray.mk #[114, 110])], [.str (ByteArray.mk #[114, 115])], [.str (ByteArray.mk #[114, 110])], [.str (ByteArray.mk #[114, 110])], [.str (ByteArray.mk #[])], [.str (ByteArray.mk #[114, 115, 110])], [.str (ByteArray.mk #[114, 110])], [.str (ByteArray.mk #[114, 115, 110])], [.str (ByteArray.mk #[114, 115])]] (([[.str (ByteArray.mk #[114, 110])], [.str (ByteArray.mk #[114, 115])], [.str (ByteArray.mk #[114, 110])], [.str (ByteArray.mk #[114, 110])], [.str (ByteArray.mk #[])], [.str (ByteArray.mk #[114, 115, 110])], [.str (ByteArray.mk #[114, 110])], [.str (ByteArray.mk #[114, 115, 110])], [.str (ByteArray.mk #[114, 115])]][Int.toNat x1]?).bind fun w1 => tOwn [.str] w1 fun s1 => fr false 1 [.one (.str s1)]) := Fx.eq (by kernel_rfl)
theorem oksl02Form : CalleeOk Go.Proofs.Try.prog 176 Ssl02Form := Fx.ok (F := Qsl02Form) follows (envTy_mk tys_m10_eq) (envSpec_of (specsOk_cons oksl01In specsOk_nil)) Go.Proofs.Try.func176 (by kernel_rfl) (by kernel_rfl) (by rw [show subs Qsl02Form.code = [] by kernel_rfl]; trivial) (by kernel_rfl) (by kernel_rfl) rfl
theorem Fsl02Form_at (op : Int) (h : 0 ≤ op ∧ op ≤ 8) : Fsl02Form [S.one (C.int op)] = some (S.one (C.str ⟨⟨formS op⟩⟩), [S.one C.unk]) := by
  have hc : op = 0 ∨ op = 1 ∨ op = 2 ∨ op = 3 ∨ op = 4 ∨ op = 5 ∨ op = 6 ∨ op = 7 ∨ op = 8 := by omega
  rw [msl02Form, Fsl01In_at]
  rcases hc with e | e | e | e | e | e | e | e | e <;> subst e <;> simp [inB, ix, formS]
/-! sl02Named: loop.example/g00712/spec.l02Named -/
@[reducible] def hsl02Named_3 : Sh := ⟨[.one (.o (.i .u8)), .one (.o .s), .one (.o (.i .i64))], []⟩
@[reducible] def xsl02Named_3 : List (Ex × Sh) := [(.ret, ⟨[.one (.o .b)], []⟩), (.exit 0, ⟨[.one (.o .u)], []⟩)]
noncomputable def Rsl02Named_3 : KC xsl02Named_3 (hsl02Named_3.K → hsl02Named_3.K) := fun k0 k1 nx v1 v2 v3 => bif decide (v3 < (v2.size : Int)) then if 0 ≤ v3 ∧ v3 < (v2.size : Int) then bif (v2.data.toList.getD (Int.toNat v3) 0).toNat == v1 then k0 true else nx v1 v2 (W (v3 + 1)) else none else k1
noncomputable def Lsl02Named_3 : Lp := ⟨3, [1, 5, 6], [4], 0, 20, hsl02Named_3, xsl02Named_3, Rsl02Named_3⟩
noncomputable def Qsl02Named : Fx := ⟨Go.Proofs.Try.f152, [.ro, .ro], false, mkEnv tys_m10 [(176, Ssl02Form)] [], fun _ => .stop, [Lsl02Named_3]⟩
noncomputable def Fsl02Named : List S → Option Res := veil Qsl02Named.run
noncomputable def Ssl02Named : Spec := ⟨[.ro, .ro], false, Fsl02Named⟩
theorem msl02Named (x1 : Int) (x2 : Int) : Fsl02Named [.one (.int x1), .one (.v (.int .u8 x2))] = cV false [.str] (Fsl02Form [.one (.int x1)]) fun s1 => iterC (Rsl02Named_3 (fun y1 => fr false 2 [.one (.bool y1)]) (fr false 2 [.one (.bool false)])) FUEL x2 s1 0 := Fx.eq (by kernel_rfl)
theorem stsl02Named_3 : Lsl02Named_3.Step Qsl02Named.E Qsl02Named.dr Qsl02Named.lp ((findLoop 3 Qsl02Named.code).getD .skip) := fun k nx v => by kernel_rfl
theorem oksl02Named : CalleeOk Go.Proofs.Try.prog 152 Ssl02Named := Fx.ok (F := Qsl02Named) follows (envTy_mk tys_m10_eq) (envSpec_of (specsOk_cons oksl02Form specsOk_nil)) Go.Proofs.Try.func152 (by kernel_rfl) (by kernel_rfl) (by
  rw [show subs Qsl02Named.code = [(findLoop 3 Qsl02Named.code).getD .skip] by kernel_rfl]
  exact ⟨stepAt_some (by kernel_rfl) stsl02Named_3, trivial⟩) (by kernel_rfl) (by kernel_rfl) rfl
theorem Fsl02Named_at (op f : Int) (h : 0 ≤ op ∧ op ≤ 8) : Fsl02Named [S.one (C.int op), S.one (C.v (.int .u8 f))] = some (S.one (C.bool ((formS op).any fun b => (b.toNat : Int) == f)), [S.one C.unk, S.one C.unk]) := by
  have hlen : (formS op).length ≤ 3 := by
    have hc : op = 0 ∨ op = 1 ∨ op = 2 ∨ op = 3 ∨ op = 4 ∨ op = 5 ∨ op = 6 ∨ op = 7 ∨ op = 8 := by omega
    rcases hc with e | e | e | e | e | e | e | e | e <;> subst e <;> decide
  rw [msl02Named, Fsl02Form_at _ h]
  simp only [cV, Option.bind_some, tOne, tOwn, tRes, id]
  refine (iter_find (h := hsl02Named_3) (formS op) (fun i g => g f ⟨⟨formS op⟩⟩ (i : Int)) (fun b => (b.toNat : Int) == f) (fun _ => fr false 2 [.one (.bool true)]) (fr false 2 [.one (.bool false)]) (by omega) ?_ ?_).trans ?_
  · intro nx; simp [Rsl02Named_3, ByteArray.size]
  · intro nx i hi hW
    simp [Rsl02Named_3, hi, hW, ByteArray.size]
  · cases (formS op).any fun b => (b.toNat : Int) == f <;> simp
/-! sInstrOk: loop.example/g00712/spec.InstrOk -/
noncomputable def QsInstrOk : Fx := ⟨Go.Proofs.Try.f102, [.ro, .ro, .ro], false, mkEnv tys_m10 [(152, Ssl02Named), (63, Ssl01In)] [], fun _ => .stop, []⟩
noncomputable def FsInstrOk : List S → Option Res := veil QsInstrOk.run
noncomputable def SsInstrOk : Spec := ⟨[.ro, .ro, .ro], false, FsInstrOk⟩
theorem msInstrOk (x1 : Int) (x2 : Int) (x3 : Int) (x4 : Int) (x5 : Int) (x6 : Int) : FsInstrOk [.agg [.int x1, .int x2, .int x3, .int x4], .one (.int x5), .one (.int x6)] = cV false [.bool] (Fsl01In [.one (.int x5), .one (.int 1), .one (.int 16)]) fun b1 => bif !b1 then fr false 3 [.one (.bool false)] else cV false [.bool] (Fsl01In [.one (.int x6), .one (.int 0), .one (.int 16)]) fun b2 => bif !b2 then fr false 3 [.one (.bool false)] else cV false [.bool] (Fsl01In [.one (.int x1), .one (.int 0), .one (.int 8)]) fun b3 => bif !b3 then fr false 3 [.one (.bool false)] else cV false [.bool] (Fsl01In [.one (.int x2), .one (.int 0), .one (.int 3)]) fun b4 => bif !b4 then fr false 3 [.one (.bool false)] else cV false [.bool] (Fsl01In [.one (.int x3), .one (.int 0), .one (.int 3)]) fun b5 => bif !b5 then fr false 3 [.one (.bool false)] else cV false [.bool] (Fsl02Named [.one (.int x1), .one (.v (.int .u8 114))]) fun b6 => bif !b6 then bif x2 != 0 then fr false 3 [.one (.bool false)] else cV false [.bool] (Fsl02Named [.one (.int x1), .one (.v (.int .u8 115))]) fun b7 => bif !b7 then bif x3 != 0 then fr false 3 [.one (.bool false)] else cV false [.bool] (Fsl02Named [.one (.int x1), .one (.v (.int .u8 110))]) fun b8 => bif !b8 then bif x4 != 0 then fr false 3 [.one (.bool false)] else bif x1 == 0 then cV false [.bool] (Fsl01In [.one (.int x4), .one (.int (-1000)), .one (.int 1000)]) fun b9 => fr false 3 [.one (.bool b9)] else bif x1 == 2 then bif x1 == 2 then cV false [.bool] (Fsl01In [.one (.int x4), .one (.int 0), .one (.int (W (x5 - 1)))]) fun b10 => fr false 3 [.one (.bool b10)] else bif x1 == 6 then cV false [.bool] (Fsl01In [.one (.int x4), .one (.int 0), .one (.int x6)]) fun b11 => fr false 3 [.one (.bool b11)] else fr false 3 [.one (.bool true)] else bif x1 == 3 then bif x1 == 3 then cV false [.bool] (Fsl01In [.one (.int x4), .one (.int 0), .one (.int (W (x5 - 1)))]) fun b12 => fr false 3 [.one (.bool b12)] else bif x1 == 6 then cV false [.bool] (Fsl01In [.one (.int x4), .one (.int 0), .one (.int x6)]) fun b13 => fr false 3 [.one (.bool b13)] else fr false 3 [.one (.bool true)] else bif x1 == 5 then bif x1 == 5 then cV false [.bool] (Fsl01In [.one (.int x4), .one (.int 0), .one (.int (W (x5 - 1)))]) fun b14 => fr false 3 [.one (.bool b14)] else bif x1 == 6 then cV false [.bool] (Fsl01In [.one (.int x4), .one (.int 0), .one (.int x6)]) fun b15 => fr false 3 [.one (.bool b15)] else fr false 3 [.one (.bool true)] else bif x1 == 7 then cV false [.bool] (Fsl01In [.one (.int x4), .one (.int 0), .one (.int (W (x5 - 1)))]) fun b16 => fr false 3 [.one (.bool b16)] else bif x1 == 6 then cV false [.bool] (Fsl01In [.one (.int x4), .one (.int 0), .one (.int x6)]) fun b17 => fr false 3 [.one (.bool b17)] else fr false 3 [.one (.bool true)] else bif x1 == 0 then cV false [.bool] (Fsl01In [.one (.int x4), .one (.int (-1000)), .one (.int 1000)]) fun b18 => fr false 3 [.one (.bool b18)] else bif x1 == 2 then bif x1 == 2 then cV false [.bool] (Fsl01In [.one (.int x4), .one (.int 0), .one (.int (W (x5 - 1)))]) fun b19 => fr false 3 [.one (.bool b19)] else bif x1 == 6 then cV false [.bool] (Fsl01In [.one (.int x4), .one (.int 0), .one (.int x6)]) fun b20 => fr false 3 [.one (.bool b20)] else fr false 3 [.one (.bool true)] else bif x1 == 3 then bif x1 == 3 then cV false [.bool] (Fsl01In [.one (.int x4), .one (.int 0), .one (.int (W (x5 - 1)))]) fun b21 => fr false 3 [.one (.bool b21)] else bif x1 == 6 then cV false [.bool] (Fsl01In [.one (.int x4), .one (.int 0), .one (.int x6)]) fun b22 => fr false 3 [.one (.bool b22)] else fr false 3 [.one (.bool true)] else bif x1 == 5 then bif x1 == 5 then cV false [.bool] (Fsl01In [.one (.int x4), .one (.int 0), .one (.int (W (x5 - 1)))]) fun b23 => fr false 3 [.one (.bool b23)] else bif x1 == 6 then cV false [.bool] (Fsl01In [.one (.int x4), .one (.int 0), .one (.int x6)]) fun b24 => fr false 3 [.one (.bool b24)] else fr false 3 [.one (.bool true)] else bif x1 == 7 then cV false [.bool] (Fsl01In [.one (.int x4), .one (.int 0), .one (.int (W (x5 - 1)))]) fun b25 => fr false 3 [.one (.bool b25)] else bif x1 == 6 then cV false [.bool] (Fsl01In [.one (.int x4), .one (.int 0), .one (.int x6)]) fun b26 => fr false 3 [.one (.bool b26)] else fr false 3 [.one (.bool true)] else cV false [.bool] (Fsl02Named [.one (.int x1), .one (.v (.int .u8 110))]) fun b27 => bif !b27 then bif x4 != 0 then fr false 3 [.one (.bool false)] else bif x1 == 0 then cV false [.bool] (Fsl01In [.one (.int x4), .one (.int (-1000)), .one (.int 1000)]) fun b28 => fr false 3 [.one (.bool b28)] else bif x1 == 2 then bif x1 == 2 then cV false [.bool] (Fsl01In [.one (.int x4), .one (.int 0), .one (.int (W (x5 - 1)))]) fun b29 => fr false 3 [.one (.bool b29)] else bif x1 == 6 then cV false [.bool] (Fsl01In [.one (.int x4), .one (.int 0), .one (.int x6)]) fun b30 => fr false 3 [.one (.bool b30)] else fr false 3 [.one (.bool true)] else bif x1 == 3 then bif x1 == 3 then cV false [.bool] (Fsl01In [.one (.int x4), .one (.int 0), .one (.int (W (x5 - 1)))]) fun b31 => fr false 3 [.one (.bool b31)] else bif x1 == 6 then cV false [.bool] (Fsl01In [.one (.int x4), .one (.int 0), .one (.int x6)]) fun b32 => fr false 3 [.one (.bool b32)] else fr false 3 [.one (.bool true)] else bif x1 == 5 then bif x1 == 5 then cV false [.bool] (Fsl01In [.one (.int x4), .one (.int 0), .one (.int (W (x5 - 1)))]) fun b33 => fr false 3 [.one (.bool b33)] else bif x1 == 6 then cV false [.bool] (Fsl01In [.one (.int x4), .one (.int 0), .one (.int x6)]) fun b34 => fr false 3 [.one (.bool b34)] else fr false 3 [.one (.bool true)] else bif x1 == 7 then cV false [.bool] (Fsl01In [.one (.int x4), .one (.int 0), .one (.int (W (x5 - 1)))]) fun b35 => fr false 3 [.one (.bool b35)] else bif x1 == 6 then cV false [.bool] (Fsl01In [.one (.int x4), .one (.int 0), .one (.int x6)]) fun b36 => fr false 3 [.one (.bool b36)] else fr false 3 [.one (.bool true)] else bif x1 == 0 then cV false [.bool] (Fsl01In [.one (.int x4), .one (.int (-1000)), .one (.int 1000)]) fun b37 => fr false 3 [.one (.bool b37)] else bif x1 == 2 then bif x1 == 2 then cV false [.bool] (Fsl01In [.one (.int x4), .one (.int 0), .one (.int (W (x5 - 1)))]) fun b38 => fr false 3 [.one (.bool b38)] else bif x1 == 6 then cV false [.bool] (Fsl01In [.one (.int x4), .one (.int 0), .one (.int x6)]) fun b39 => fr false 3 [.one (.bool b39)] else fr false 3 [.one (.bool true)] else bif x1 == 3 then bif x1 == 3 then cV false [.bool] (Fsl01In [.one (.int x4), .one (.int 0), .one (.int (W (x5 - 1)))]) fun b40 => fr false 3 [.one (.bool b40)] else bif x1 == 6 then cV false [.bool] (Fsl01In [.one (.int x4), .one (.int 0), .one (.int x6)]) fun b41 => fr false 3 [.one (.bool b41)] else fr false 3 [.one (.bool true)] else bif x1 == 5 then bif x1 == 5 then cV false [.bool] (Fsl01In [.one (.int x4), .one (.int 0), .one (.int (W (x5 - 1)))]) fun b42 => fr false 3 [.one (.bool b42)] else bif x1 == 6 then cV false [.bool] (Fsl01In [.one (.int x4), .one (.int 0), .one (.int x6)]) fun b43 => fr false 3 [.one (.bool b43)] else fr false 3 [.one (.bool true)] else bif x1 == 7 then cV false [.bool] (Fsl01In [.one (.int x4), .one (.int 0), .one (.int (W (x5 - 1)))]) fun b44 => fr false 3 [.one (.bool b44)] else bif x1 == 6 then cV false [.bool] (Fsl01In [.one (.int x4), .one (.int 0), .one (.int x6)]) fun b45 => fr false 3 [.one (.bool b45)] else fr false 3 [.one (.bool true)] else cV false [.bool] (Fsl02Named [.one (.int x1), .one (.v (.int .u8 115))]) fun b46 => bif !b46 then bif x3 != 0 then fr false 3 [.one (.bool false)] else cV false [.bool] (Fsl02Named [.one (.int x1), .one (.v (.int .u8 110))]) fun b47 => bif !b47 then bif x4 != 0 then fr false 3 [.one (.bool false)] else bif x1 == 0 then cV false [.bool] (Fsl01In [.one (.int x4), .one (.int (-1000)), .one (.int 1000)]) fun b48 => fr false 3 [.one (.bool b48)] else bif x1 == 2 then bif x1 == 2 then cV false [.bool] (Fsl01In [.one (.int x4), .one (.int 0), .one (.int (W (x5 - 1)))]) fun b49 => fr false 3 [.one (.bool b49)] else bif x1 == 6 then cV false [.bool] (Fsl01In [.one (.int x4), .one (.int 0), .one (.int x6)]) fun b50 => fr false 3 [.one (.bool b50)] else fr false 3 [.one (.bool true)] else bif x1 == 3 then bif x1 == 3 then cV false [.bool] (Fsl01In [.one (.int x4), .one (.int 0), .one (.int (W (x5 - 1)))]) fun b51 => fr false 3 [.one (.bool b51)] else bif x1 == 6 then cV false [.bool] (Fsl01In [.one (.int x4), .one (.int 0), .one (.int x6)]) fun b52 => fr false 3 [.one (.bool b52)] else fr false 3 [.one (.bool true)] else bif x1 == 5 then bif x1 == 5 then cV false [.bool] (Fsl01In [.one (.int x4), .one (.int 0), .one (.int (W (x5 - 1)))]) fun b53 => fr false 3 [.one (.bool b53)] else bif x1 == 6 then cV false [.bool] (Fsl01In [.one (.int x4), .one (.int 0), .one (.int x6)]) fun b54 => fr false 3 [.one (.bool b54)] else fr false 3 [.one (.bool true)] else bif x1 == 7 then cV false [.bool] (Fsl01In [.one (.int x4), .one (.int 0), .one (.int (W (x5 - 1)))]) fun b55 => fr false 3 [.one (.bool b55)] else bif x1 == 6 then cV false [.bool] (Fsl01In [.one (.int x4), .one (.int 0), .one (.int x6)]) fun b56 => fr false 3 [.one (.bool b56)] else fr false 3 [.one (.bool true)] else bif x1 == 0 then cV false [.bool] (Fsl01In [.one (.int x4), .one (.int (-1000)), .one (.int 1000)]) fun b57 => fr false 3 [.one (.bool b57)] else bif x1 == 2 then bif x1 == 2 then cV false [.bool] (Fsl01In [.one (.int x4), .one (.int 0), .one (.int (W (x5 - 1)))]) fun b58 => fr false 3 [.one (.bool b58)] else bif x1 == 6 then cV false [.bool] (Fsl01In [.one (.int x4), .one (.int 0), .one (.int x6)]) fun b59 => fr false 3 [.one (.bool b59)] else fr false 3 [.one (.bool true)] else bif x1 == 3 then bif x1 == 3 then cV false [.bool] (Fsl01In [.one (.int x4), .one (.int 0), .one (.int (W (x5 - 1)))]) fun b60 => fr false 3 [.one (.bool b60)] else bif x1 == 6 then cV false [.bool] (Fsl01In [.one (.int x4), .one (.int 0), .one (.int x6)]) fun b61 => fr false 3 [.one (.bool b61)] else fr false 3 [.one (.bool true)] else bif x1 == 5 then bif x1 == 5 then cV false [.bool] (Fsl01In [.one (.int x4), .one (.int 0), .one (.int (W (x5 - 1)))]) fun b62 => fr false 3 [.one (.bool b62)] else bif x1 == 6 then cV false [.bool] (Fsl01In [.one (.int x4), .one (.int 0), .one (.int x6)]) fun b63 => fr false 3 [.one (.bool b63)] else fr false 3 [.one (.bool true)] else bif x1 == 7 then cV false [.bool] (Fsl01In [.one (.int x4), .one (.int 0), .one (.int (W (x5 - 1)))]) fun b64 => fr false 3 [.one (.bool b64)] else bif x1 == 6 then cV false [.bool] (Fsl01In [.one (.int x4), .one (.int 0), .one (.int x6)]) fun b65 => fr false 3 [.one (.bool b65)] else fr false 3 [.one (.bool true)] else cV false [.bool] (Fsl02Named [.one (.int x1), .one (.v (.int .u8 110))]) fun b66 => bif !b66 then bif x4 != 0 then fr false 3 [.one (.bool false)] else bif x1 == 0 then cV false [.bool] (Fsl01In [.one (.int x4), .one (.int (-1000)), .one (.int 1000)]) fun b67 => fr false 3 [.one (.bool b67)] else bif x1 == 2 then bif x1 == 2 then cV false [.bool] (Fsl01In [.one (.int x4), .one (.int 0), .one (.int (W (x5 - 1)))]) fun b68 => fr false 3 [.one (.bool b68)] else bif x1 == 6 then cV false [.bool] (Fsl01In [.one (.int x4), .one (.int 0), .one (.int x6)]) fun b69 => fr false 3 [.one (.bool b69)] else fr false 3 [.one (.bool true)] else bif x1 == 3 then bif x1 == 3 then cV false [.bool] (Fsl01In [.one (.int x4), .one (.int 0), .one (.int (W (x5 - 1)))]) fun b70 => fr false 3 [.one (.bool b70)] else bif x1 == 6 then cV false [.bool] (Fsl01In [.one (.int x4), .one (.int 0), .one (.int x6)]) fun b71 => fr false 3 [.one (.bool b71)] else fr false 3 [.one (.bool true)] else bif x1 == 5 then bif x1 == 5 then cV false [.bool] (Fsl01In [.one (.int x4), .one (.int 0), .one (.int (W (x5 - 1)))]) fun b72 => fr false 3 [.one (.bool b72)] else bif x1 == 6 then cV false [.bool] (Fsl01In [.one (.int x4), .one (.int 0), .one (.int x6)]) fun b73 => fr false 3 [.one (.bool b73)] else fr false 3 [.one (.bool true)] else bif x1 == 7 then cV false [.bool] (Fsl01In [.one (.int x4), .one (.int 0), .one (.int (W (x5 - 1)))]) fun b74 => fr false 3 [.one (.bool b74)] else bif x1 == 6 then cV false [.bool] (Fsl01In [.one (.int x4), .one (.int 0), .one (.int x6)]) fun b75 => fr false 3 [.one (.bool b75)] else fr false 3 [.one (.bool true)] else bif x1 == 0 then cV false [.bool] (Fsl01In [.one (.int x4), .one (.int (-1000)), .one (.int 1000)]) fun b76 => fr false 3 [.one (.bool b76)] else bif x1 == 2 then bif x1 == 2 then cV false [.bool] (Fsl01In [.one (.int x4), .one (.int 0), .one (.int (W (x5 - 1)))]) fun b77 => fr false 3 [.one (.bool b77)] else bif x1 == 6 then cV false [.bool] (Fsl01In [.one (.int x4), .one (.int 0), .one (.int x6)]) fun b78 => fr false 3 [.one (.bool b78)] else fr false 3 [.one (.bool true)] else bif x1 == 3 then bif x1 == 3 then cV false [.bool] (Fsl01In [.one (.int x4), .one (.int 0), .one (.int (W (x5 - 1)))]) fun b79 => fr false 3 [.one (.bool b79)] else bif x1 == 6 then cV false [.bool] (Fsl01In [.one (.int x4), .one (.int 0), .one (.int x6)]) fun b80 => fr false 3 [.one (.bool b80)] else fr false 3 [.one (.bool true)] else bif x1 == 5 then bif x1 == 5 then cV false [.bool] (Fsl01In [.one (.int x4), .one (.int 0), .one (.int (W (x5 - 1)))]) fun b81 => fr false 3 [.one (.bool b81)] else bif x1 == 6 then cV false [.bool] (Fsl01In [.one (.int x4), .one (.int 0), .one (.int x6)]) fun b82 => fr false 3 [.one (.bool b82)] else fr false 3 [.one (.bool true)] else bif x1 == 7 then cV false [.bool] (Fsl01In [.one (.int x4), .one (.int 0), .one (.int (W (x5 - 1)))]) fun b83 => fr false 3 [.one (.bool b83)] else bif x1 == 6 then cV false [.bool] (Fsl01In [.one (.int x4), .one (.int 0), .one (.int x6)]) fun b84 => fr false 3 [.one (.bool b84)] else fr false 3 [.one (.bool true)] := Fx.eq (by kernel_rfl)
theorem oksInstrOk : CalleeOk Go.Proofs.Try.prog 102 SsInstrOk := Fx.ok (F := QsInstrOk) follows (envTy_mk tys_m10_eq) (envSpec_of (specsOk_cons oksl02Named (specsOk_cons oksl01In specsOk_nil))) Go.Proofs.Try.func102 (by kernel_rfl) (by kernel_rfl) (by rw [show subs QsInstrOk.code = [] by kernel_rfl]; trivial) (by kernel_rfl) (by kernel_rfl) rfl
theorem FsInstrOk_at (i : Instr) (cells size : Int) : FsInstrOk [S.agg (encInstr i), S.one (C.int cells), S.one (C.int size)] = some (S.one (C.bool (instrOk i cells size)), [S.one C.unk, S.one C.unk, S.one C.unk]) := by
  rw [msInstrOk]
  simp only [Fsl01In_at, instrOk]
  cases h1 : inB cells 1 16
  · simp
  cases h2 : inB size 0 16
  · simp
  cases h3 : inB i.op 0 8
  · simp
  cases h4 : inB i.r 0 3
  · simp
  cases h5 : inB i.s 0 3
  · simp
  have h3' := h3
  have h1' := h1
  simp only [inB, Bool.and_eq_true, decide_eq_true_eq] at h3' h1'
  have hw : W (cells - 1) = cells - 1 := W_eq (by omega) (by omega)
  have hc : i.op = 0 ∨ i.op = 1 ∨ i.op = 2 ∨ i.op = 3 ∨ i.op = 4 ∨ i.op = 5 ∨ i.op = 6 ∨ i.op = 7 ∨ i.op = 8 := by omega
  simp only [Fsl02Named_at i.op 114 h3', Fsl02Named_at i.op 115 h3', Fsl02Named_at i.op 110 h3', hw]
  have hr : ∀ x : Int, (x != 0) = !(x == 0) := fun x => rfl
  rcases hc with e | e | e | e | e | e | e | e | e <;> rw [e] <;> simp [formS, useR, useS, useN, hr] <;> cases (i.r == 0) <;> cases (i.s == 0) <;> cases (i.n == 0) <;> simp
end Go.Proofs.Gh.Gm
set_option linter.unusedVariables false
set_option linter.unusedSimpArgs false
set_option maxRecDepth 100000
set_option maxHeartbeats 2000000
namespace Go.Proofs.Gh.Gm
def tys_m11 : List (Nat × TI) := [(3, ⟨false, 8, [.int .i64], [.int 0], .scalar, false, none⟩),
  (4, ⟨false, 1, [.bool], [.bool false], .scalar, false, none⟩),
  (64, ⟨false, 24, [.sl 1], [.sl true (some true) 1 []], .slice 69, false, none⟩),
  (66, ⟨true, 32, [.int .i64, .sl 1], [.int 0, .sl true (some true) 1 []], .struct [(0, 1, false), (1, 1, false)], false, none⟩),
  (69, ⟨false, 24, [.sl 4], [.sl true (some true) 4 []], .slice 135, false, none⟩),
  (135, ⟨true, 32, [.int .i64, .int .i64, .int .i64, .int .i64], [.int 0, .int 0, .int 0, .int 0], .struct [(0, 1, false), (1, 1, false), (2, 1, false), (3, 1, false)], true, none⟩)]
theorem tys_m11_eq : tys_m11.map (fun x => tiOf Go.Proofs.Try.prog x.1 x.2.cks) = tys_m11.map fun x => some x.2 := by kernel_rfl
/-! sProgOk: loop.example/g00712/spec.ProgOk -/
@[reducible] def hsProgOk_9 : Sh := ⟨[.one (.o (.pl 0 0 [])), .one (.o (.i .i64)), .one (.o (.i .i64))], [(false, [.o (.i .i64), .o (.sl false 1)])]⟩
@[reducible] def xsProgOk_9 : List (Ex × Sh) := [(.ret, ⟨[.one (.o (.pl 0 0 [])), .one (.o .b), .one (.o (.i .i64))], [(false, [.o (.i .i64), .o (.sl false 1)])]⟩), (.exit 2, ⟨[.one (.o (.pl 0 0 [])), .one (.o .u), .one (.o (.i .i64))], [(false, [.o (.i .i64), .o (.sl false 1)])]⟩)]
noncomputable def RsProgOk_9 : KC xsProgOk_9 (hsProgOk_9.K → hsProgOk_9.K) := fun k0 k1 nx v1 v2 v3 v4 v5 => ix v1 v5 ((v5[Int.toNat v1]?).bind fun w2 => tRo [.sl 4] w2 fun _ l2 => bif decide (v2 < (l2.length : Int)) then ix v1 v5 ((v5[Int.toNat v1]?).bind fun w3 => tRo [.sl 4] w3 fun _ l3 => ix v2 l3 ((l3[Int.toNat v2]?).bind fun w4 => tRo [.int .i64, .int .i64, .int .i64, .int .i64] w4 fun n1 n2 n3 n4 => ix v1 v5 ((v5[Int.toNat v1]?).bind fun w5 => tRo [.sl 4] w5 fun _ l4 => cV false [.bool] (FsInstrOk [.agg [.int n1, .int n2, .int n3, .int n4], .one (.int v3), .one (.int (l4.length : Int))]) fun b3 => bif !b3 then k0 false v1 v3 v4 v5 else nx v1 (W (v2 + 1)) v3 v4 v5))) else k1 v1 v3 v4 v5)
noncomputable def LsProgOk_9 : Lp := ⟨9, [1, 3, 4], [1, 2, 3], 1, 58, hsProgOk_9, xsProgOk_9, RsProgOk_9⟩
@[reducible] def hsProgOk_4 : Sh := ⟨[.one (.o (.pl 0 0 [])), .one (.o (.i .i64))], [(false, [.o (.i .i64), .o (.sl false 1)])]⟩
@[reducible] def xsProgOk_4 : List (Ex × Sh) := [(.ret, ⟨[.one (.o .b)], [(false, [.o (.i .i64), .o (.sl false 1)])]⟩), (.exit 0, ⟨[.one (.o .u)], [(false, [.o (.i .i64), .o (.sl false 1)])]⟩)]
noncomputable def RsProgOk_4 : KC xsProgOk_4 (hsProgOk_4.K → hsProgOk_4.K) := fun k0 k1 nx v1 v2 v3 v4 => bif decide (v1 < (v4.length : Int)) then ix v1 v4 ((v4[Int.toNat v1]?).bind fun w1 => tRo [.sl 4] w1 fun _ l1 => bif decide ((l1.length : Int) > 16) then k0 false v2 v3 v4 else iterC (RsProgOk_9 (fun y1 y2 y3 y4 y5 => k0 y1 y3 y4 y5) (fun y6 y7 y8 y9 => nx (W (y6 + 1)) y7 y8 y9)) FUEL v1 0 v2 v3 v4) else k1 v2 v3 v4
noncomputable def LsProgOk_4 : Lp := ⟨4, [1, 3], [2], 1, 58, hsProgOk_4, xsProgOk_4, RsProgOk_4⟩
noncomputable def QsProgOk : Fx := ⟨Go.Proofs.Try.f51, [.ro], false, mkEnv tys_m11 [(102, SsInstrOk), (63, Ssl01In)] [], fun id => bif Nat.beq id 11 then .sq [0, 1, 2, 3, 4, 5, 6, 7, 8, 9, 10, 11, 12, 13, 14, 15, 16, 17] .stop else .stop, [LsProgOk_9, LsProgOk_4]⟩
noncomputable def FsProgOk : List S → Option Res := veil QsProgOk.run
noncomputable def SsProgOk : Spec := ⟨[.ro], false, FsProgOk⟩
theorem msProgOk (x1 : Int) (x2 : List (List C)) : FsProgOk [.agg [.int x1, .sl false none 1 x2]] = cV false [.bool] (Fsl01In [.one (.int x1), .one (.int 1), .one (.int 16)]) fun b1 => bif !b1 then fr false 1 [.one (.bool false)] else cV false [.bool] (Fsl01In [.one (.int (x2.length : Int)), .one (.int 1), .one (.int 3)]) fun b2 => bif !b2 then fr false 1 [.one (.bool false)] else iterC (RsProgOk_4 (fun y1 y2 y3 y4 => fr false 1 [.one (.bool y1)]) (fun y5 y6 y7 => fr false 1 [.one (.bool true)])) FUEL 0 x1 none x2 := Fx.eq (by kernel_rfl)
theorem stsProgOk_9 : LsProgOk_9.Step QsProgOk.E QsProgOk.dr QsProgOk.lp ((findLoop 9 QsProgOk.code).getD .skip) := fun k nx v => by kernel_rfl
theorem stsProgOk_4 : LsProgOk_4.Step QsProgOk.E QsProgOk.dr QsProgOk.lp ((findLoop 4 QsProgOk.code).getD .skip) := fun k nx v => by kernel_rfl
theorem oksProgOk : CalleeOk Go.Proofs.Try.prog 51 SsProgOk := Fx.ok (F := QsProgOk) follows (envTy_mk tys_m11_eq) (envSpec_of (specsOk_cons oksInstrOk (specsOk_cons oksl01In specsOk_nil))) Go.Proofs.Try.func51 (by kernel_rfl) (by kernel_rfl) (by
  rw [show subs QsProgOk.code = [(findLoop 4 QsProgOk.code).getD .skip, (findLoop 9 QsProgOk.code).getD .skip] by kernel_rfl]
  exact ⟨stepAt_some (by kernel_rfl) stsProgOk_4, stepAt_some (by kernel_rfl) stsProgOk_9, trivial⟩) (by kernel_rfl) (by kernel_rfl) rfl
theorem FsProgOk_at (p : Prog) (h : bndL p.codes) : FsProgOk [S.agg (encProg false p)] = some (S.one (C.bool (progOk p)), [S.one C.unk]) := by
  rw [msProgOk]
  simp only [Fsl01In_at, progOk, List.length_map]
  cases h1 : inB p.cells 1 16
  · simp
  cases h2 : inB (p.codes.length : Int) 1 3
  · simp
  simp only [cV, Option.bind_some, tOne, tOwn, tRes, id, Bool.not_true, cond_false, Bool.true_and]
  refine (iter_all (h := hsProgOk_4) p.codes (fun t f => f (t : Int) p.cells none (p.codes.map (encCode false))) (codeOk p.cells) (fr false 1 [.one (.bool true)]) (fr false 1 [.one (.bool false)]) (by have := h.1; omega) ?_ ?_).trans ?_
  · intro nx; simp [RsProgOk_4]
  · intro nx t ht hW
    have hlen := h.2 _ (List.getElem_mem ht)
    by_cases hl : p.codes[t].length ≤ 16
    · have hl' : ¬ ((p.codes[t].length : Int) > 16) := by omega
      have hin := iter_all (h := hsProgOk_9) (fb := RsProgOk_9 (fun y1 y2 y3 y4 y5 => fr false 1 [.one (.bool y1)]) (fun y6 y7 y8 y9 => nx (W (y6 + 1)) y7 y8 y9)) p.codes[t] (fun j f => f (t : Int) (j : Int) p.cells none (p.codes.map (encCode false))) (fun i => instrOk i p.cells p.codes[t].length)
        (nx ((t : Int) + 1) p.cells none (p.codes.map (encCode false))) (fr false 1 [.one (.bool false)]) (by omega) ?_ ?_
      · simp only [codeOk, hl, decide_true, Bool.true_and]
        refine Eq.trans ?_ hin
        simp [RsProgOk_4, ht, hl']
      · intro nx2; simp [RsProgOk_9, ht, hW]
      · intro nx2 j hj hW2
        simp [RsProgOk_9, ht, hj, hW2, FsInstrOk_at]
        try (cases instrOk p.codes[t][j] p.cells p.codes[t].length <;> simp)
    · have hl' : (16 : Int) < (p.codes[t].length : Int) := by omega
      simp [RsProgOk_4, ht, hl', codeOk, hl]
  · cases p.codes.all (codeOk p.cells) <;> simp
end Go.Proofs.Gh.Gm
set_option linter.unusedVariables false
set_option linter.unusedSimpArgs false
set_option maxRecDepth 100000
set_option maxHeartbeats 2000000
namespace Go.Proofs.Gh.Gm
def tys_m12 : List (Nat × TI) := [(3, ⟨false, 8, [.int .i64], [.int 0], .scalar, false, none⟩),
  (4, ⟨false, 1, [.bool], [.bool false], .scalar, false, none⟩),
  (23, ⟨false, 24, [.sl 1], [.sl true (some true) 1 []], .slice 3, false, none⟩),
  (64, ⟨false, 24, [.sl 1], [.sl true (some true) 1 []], .slice 69, false, none⟩),
  (66, ⟨true, 32, [.int .i64, .sl 1], [.int 0, .sl true (some true) 1 []], .struct [(0, 1, false), (1, 1, false)], false, none⟩),
  (69, ⟨false, 24, [.sl 4], [.sl true (some true) 4 []], .slice 135, false, none⟩),
  (71, ⟨true, 24, [.sl 1], [.sl true (some true) 1 []], .struct [(0, 1, false)], false, none⟩),
  (72, ⟨false, 24, [.sl 3], [.sl true (some true) 3 []], .slice 84, false, none⟩),
  (74, ⟨true, 48, [.sl 1, .sl 3], [.sl true (some true) 1 [], .sl true (some true) 3 []], .struct [(0, 1, true), (1, 1, false)], false, none⟩),
  (82, ⟨false, 24, [.sl 2], [.sl true (some true) 2 []], .slice 144, false, none⟩),
  (84, ⟨true, 56, [.int .i64, .sl 1, .sl 2], [.int 0, .sl true (some true) 1 [], .sl true (some true) 2 []], .struct [(0, 1, false), (1, 1, false), (2, 1, false)], false, none⟩),
  (144, ⟨true, 16, [.int .i64, .int .i64], [.int 0, .int 0], .struct [(0, 1, false), (1, 1, false)], true, none⟩)]
theorem tys_m12_eq : tys_m12.map (fun x => tiOf Go.Proofs.Try.prog x.1 x.2.cks) = tys_m12.map fun x => some x.2 := by kernel_rfl
/-! sMachineOk: loop.example/g00712/spec.MachineOk -/
@[reducible] def hsMachineOk_10 : Sh := ⟨[.one (.o (.pl 0 0 [])), .one (.o (.pl 1 0 [])), .one (.o (.i .i64)), .one (.o (.pl 2 0 [])), .one (.o (.i .i64))], [(false, [.o (.i .i64), .o (.sl false 1)]), (false, [.o (.sl false 1), .o (.sl false 3)]), (false, [.o (.i .i64), .o (.sl false 1), .o (.sl false 2)])]⟩
@[reducible] def xsMachineOk_10 : List (Ex × Sh) := [(.ret, ⟨[.one (.o (.pl 0 0 [])), .one (.o (.pl 1 0 [])), .one (.o .b), .one (.o (.i .i64)), .one (.o (.pl 2 0 []))], [(false, [.o (.i .i64), .o (.sl false 1)]), (false, [.o (.sl false 1), .o (.sl false 3)]), (false, [.o (.i .i64), .o (.sl false 1), .o (.sl false 2)])]⟩), (.exit 2, ⟨[.one (.o (.pl 0 0 [])), .one (.o (.pl 1 0 [])), .one (.o .u), .one (.o (.i .i64)), .one (.o (.pl 2 0 []))], [(false, [.o (.i .i64), .o (.sl false 1)]), (false, [.o (.sl false 1), .o (.sl false 3)]), (false, [.o (.i .i64), .o (.sl false 1), .o (.sl false 2)])]⟩)]
noncomputable def RsMachineOk_10 : KC xsMachineOk_10 (hsMachineOk_10.K → hsMachineOk_10.K) := fun k0 k1 nx v1 v2 v3 v4 v5 v6 v7 v8 v9 v10 v11 v12 v13 v14 => bif decide (v2 < (v12.length : Int)) then ix v2 v12 ((v12[Int.toNat v2]?).bind fun w3 => tRo [.int .i64] w3 fun n2 => cV false [.bool] (Fsl01Value [.one (.int n2)]) fun b5 => bif !b5 then k0 false v1 v3 v4 v5 v6 v7 v8 v9 v10 v11 v12 v13 v14 else nx v1 (W (v2 + 1)) v3 v4 v5 v6 v7 v8 v9 v10 v11 v12 v13 v14) else k1 v1 v3 v4 v5 v6 v7 v8 v9 v10 v11 v12 v13 v14
noncomputable def LsMachineOk_10 : Lp := ⟨10, [2, 3, 5, 6, 7], [2, 3, 4, 5, 6], 3, 100, hsMachineOk_10, xsMachineOk_10, RsMachineOk_10⟩
@[reducible] def hsMachineOk_15 : Sh := ⟨[.one (.o (.pl 0 0 [])), .one (.o (.pl 1 0 [])), .one (.o (.i .i64)), .one (.o (.pl 2 0 [])), .one (.o (.i .i64))], [(false, [.o (.i .i64), .o (.sl false 1)]), (false, [.o (.sl false 1), .o (.sl false 3)]), (false, [.o (.i .i64), .o (.sl false 1), .o (.sl false 2)])]⟩
@[reducible] def xsMachineOk_15 : List (Ex × Sh) := [(.ret, ⟨[.one (.o (.pl 0 0 [])), .one (.o (.pl 1 0 [])), .one (.o .b), .one (.o (.i .i64))], [(false, [.o (.i .i64), .o (.sl false 1)]), (false, [.o (.sl false 1), .o (.sl false 3)]), (false, [.o (.i .i64), .o (.sl false 1), .o (.sl false 2)])]⟩), (.exit 4, ⟨[.one (.o (.pl 0 0 [])), .one (.o (.pl 1 0 [])), .one (.o .u), .one (.o (.i .i64))], [(false, [.o (.i .i64), .o (.sl false 1)]), (false, [.o (.sl false 1), .o (.sl false 3)]), (false, [.o (.i .i64), .o (.sl false 1), .o (.sl false 2)])]⟩)]
noncomputable def RsMachineOk_15 : KC xsMachineOk_15 (hsMachineOk_15.K → hsMachineOk_15.K) := fun k0 k1 nx v1 v2 v3 v4 v5 v6 v7 v8 v9 v10 v11 v12 v13 v14 => bif decide (v2 < (v14.length : Int)) then ix v2 v14 ((v14[Int.toNat v2]?).bind fun w3 => tRo [.int .i64] w3 fun n2 => bif decide (n2 ≥ v3) then k0 false v1 v3 v4 v5 v6 v7 v8 v9 v10 v11 v12 v13 v14 else nx v1 (W (v2 + 1)) v3 v4 v5 v6 v7 v8 v9 v10 v11 v12 v13 v14) else k1 v1 v3 v4 v5 v6 v7 v8 v9 v10 v11 v12 v13 v14
noncomputable def LsMachineOk_15 : Lp := ⟨15, [2, 3, 5, 6, 8], [2, 3, 4, 5], 3, 100, hsMachineOk_15, xsMachineOk_15, RsMachineOk_15⟩
@[reducible] def hsMachineOk_4 : Sh := ⟨[.one (.o (.pl 0 0 [])), .one (.o (.pl 1 0 [])), .one (.o (.i .i64))], [(false, [.o (.i .i64), .o (.sl false 1)]), (false, [.o (.sl false 1), .o (.sl false 3)])]⟩
@[reducible] def xsMachineOk_4 : List (Ex × Sh) := [(.ret, ⟨[.one (.o .b)], [(false, [.o (.i .i64), .o (.sl false 1)]), (false, [.o (.sl false 1), .o (.sl false 3)]), (false, [.o (.i .i64), .o (.sl false 1), .o (.sl false 2)])]⟩), (.exit 0, ⟨[.one (.o .u)], [(false, [.o (.i .i64), .o (.sl false 1)]), (false, [.o (.sl false 1), .o (.sl false 3)])]⟩)]
noncomputable def RsMachineOk_4 : KC xsMachineOk_4 (hsMachineOk_4.K → hsMachineOk_4.K) := fun k0 k1 nx v1 v2 v3 v4 v5 v6 v7 v8 => bif decide (v1 < (v8.length : Int)) then ix v1 v8 ((v8[Int.toNat v1]?).bind fun w1 => tRo [.int .i64, .sl 1, .sl 2] w1 fun n1 _ l1 _ l2 => ix v1 v4 ((v4[Int.toNat v1]?).bind fun w2 => tRo [.sl 4] w2 fun _ l3 => cV false [.bool] (Fsl01In [.one (.int n1), .one (.int 0), .one (.int (l3.length : Int))]) fun b3 => bif !b3 then k0 false v2 v3 v4 v5 v6 v7 v8 n1 none l1 none l2 else bif (l1.length : Int) != 4 then k0 false v2 v3 v4 v5 v6 v7 v8 n1 none l1 none l2 else cV false [.bool] (FsBufOk [.one (.sl false none 2 l2)]) fun b4 => bif !b4 then k0 false v2 v3 v4 v5 v6 v7 v8 n1 none l1 none l2 else iterC (RsMachineOk_10 (fun y1 y2 y3 y4 y5 y6 y7 y8 y9 y10 y11 y12 y13 y14 => k0 y1 y3 y4 y5 y6 y7 y8 y9 y10 y11 y12 y13 y14) (fun y15 y16 y17 y18 y19 y20 y21 y22 y23 y24 y25 y26 y27 => iterC (RsMachineOk_15 (fun y28 y29 y30 y31 y32 y33 y34 y35 y36 y37 y38 y39 y40 y41 => k0 y28 y30 y31 y32 y33 y34 y35 y36 y37 y38 y39 y40 y41) (fun y42 y43 y44 y45 y46 y47 y48 y49 y50 y51 y52 y53 y54 => nx (W (y42 + 1)) y43 y44 y45 y46 y47 y48 y49)) FUEL y15 0 y16 y17 y18 y19 y20 y21 y22 y23 y24 y25 y26 y27)) FUEL v1 0 v2 v3 v4 v5 v6 v7 v8 n1 none l1 none l2)) else k1 v2 v3 v4 v5 v6 v7 v8
noncomputable def LsMachineOk_4 : Lp := ⟨4, [2, 3, 5], [4], 2, 100, hsMachineOk_4, xsMachineOk_4, RsMachineOk_4⟩
noncomputable def QsMachineOk : Fx := ⟨Go.Proofs.Try.f59, [.ro, .ro], false, mkEnv tys_m12 [(113, SsMemOk), (114, SsBufOk), (115, Ssl01Value), (51, SsProgOk), (63, Ssl01In)] [], fun id => bif Nat.beq id 7 then .sq [0, 1, 2, 3, 4, 5, 6, 7, 8, 9, 10, 11, 12, 13, 14, 15, 16, 17, 18, 19, 20, 21] .stop else bif Nat.beq id 17 then .sq [0, 1, 2, 3, 4, 5, 6, 7, 8] .stop else .stop, [LsMachineOk_10, LsMachineOk_15, LsMachineOk_4]⟩
noncomputable def FsMachineOk : List S → Option Res := veil QsMachineOk.run
noncomputable def SsMachineOk : Spec := ⟨[.ro, .ro], false, FsMachineOk⟩
theorem msMachineOk (x1 : Int) (x2 : List (List C)) (x3 : List (List C)) (x4 : List (List C)) : FsMachineOk [.agg [.int x1, .sl false none 1 x2], .agg [.sl false none 1 x3, .sl false none 3 x4]] = cV false [.bool] (FsProgOk [.agg [.int x1, .sl false none 1 x2]]) fun b1 => bif !b1 then fr false 2 [.one (.bool false)] else cV false [.bool] (FsMemOk [.agg [.sl false none 1 x3]]) fun b2 => bif !b2 then fr false 2 [.one (.bool false)] else bif (x3.length : Int) != x1 then fr false 2 [.one (.bool false)] else bif (x4.length : Int) != (x2.length : Int) then fr false 2 [.one (.bool false)] else iterC (RsMachineOk_4 (fun y1 y2 y3 y4 y5 y6 y7 y8 y9 y10 y11 y12 y13 => fr false 2 [.one (.bool y1)]) (fun y14 y15 y16 y17 y18 y19 y20 => fr false 2 [.one (.bool true)])) FUEL 0 x1 none x2 none x3 none x4 := Fx.eq (by kernel_rfl)
theorem stsMachineOk_10 : LsMachineOk_10.Step QsMachineOk.E QsMachineOk.dr QsMachineOk.lp ((findLoop 10 QsMachineOk.code).getD .skip) := fun k nx v => by kernel_rfl
theorem stsMachineOk_15 : LsMachineOk_15.Step QsMachineOk.E QsMachineOk.dr QsMachineOk.lp ((findLoop 15 QsMachineOk.code).getD .skip) := fun k nx v => by kernel_rfl
theorem stsMachineOk_4 : LsMachineOk_4.Step QsMachineOk.E QsMachineOk.dr QsMachineOk.lp ((findLoop 4 QsMachineOk.code).getD .skip) := fun k nx v => by kernel_rfl
theorem oksMachineOk : CalleeOk Go.Proofs.Try.prog 59 SsMachineOk := Fx.ok (F := QsMachineOk) follows (envTy_mk tys_m12_eq) (envSpec_of (specsOk_cons oksMemOk (specsOk_cons oksBufOk (specsOk_cons oksl01Value (specsOk_cons oksProgOk (specsOk_cons oksl01In specsOk_nil)))))) Go.Proofs.Try.func59 (by kernel_rfl) (by kernel_rfl) (by
  rw [show subs QsMachineOk.code = [(findLoop 4 QsMachineOk.code).getD .skip, (findLoop 10 QsMachineOk.code).getD .skip, (findLoop 15 QsMachineOk.code).getD .skip] by kernel_rfl]
  exact ⟨stepAt_some (by kernel_rfl) stsMachineOk_4, stepAt_some (by kernel_rfl) stsMachineOk_10, stepAt_some (by kernel_rfl) stsMachineOk_15, trivial⟩) (by kernel_rfl) (by kernel_rfl) rfl
theorem FsMachineOk_at (p : Prog) (m : Machine) (h : bndL p.codes ∧ smallL m.cells ∧ bndT m.ths) : FsMachineOk [S.agg (encProg false p), S.agg (encMa false m)] = some (S.one (C.bool (progOk p && isMa p m)), [S.one C.unk, S.one C.unk]) := by
  obtain ⟨hb1, hb2, hb3⟩ := h
  rw [msMachineOk, FsProgOk_at _ hb1, FsMemOk_at _ hb2]
  simp only [List.length_map, isMa]
  cases h1 : progOk p
  · simp
  cases h2 : memOk m.cells
  · simp
  by_cases h3 : ¬ (m.cells.length : Int) = p.cells
  · have h3' : ((m.cells.length : Int) == p.cells) = false := by simpa using h3
    simp [h3, bne, h3']
  replace h3 := Decidable.not_not.1 h3
  by_cases h4 : ¬ m.ths.length = p.codes.length
  · have h4' : ((m.ths.length : Int) == (p.codes.length : Int)) = false := by simp; omega
    simp [h3, h4, bne, h4']
  replace h4 := Decidable.not_not.1 h4
  have e3 : ((m.cells.length : Int) != p.cells) = false := by simp [h3]
  have e4 : ((m.ths.length : Int) != (p.codes.length : Int)) = false := by simp [h4]
  have hz : (m.ths.zip p.codes).length = m.ths.length := by simp [h4]
  simp only [cV, Option.bind_some, tOne, tOwn, tRes, id, Bool.not_true, cond_false, Bool.true_and, e3, e4]
  refine (iter_all (h := hsMachineOk_4) (m.ths.zip p.codes) (fun t f => f (t : Int) p.cells none (p.codes.map (encCode false)) none (m.cells.map encInt) none (m.ths.map (encTh false))) (fun x => thOk p.cells x.1 x.2) (fr false 2 [.one (.bool true)]) (fr false 2 [.one (.bool false)]) (by have := hb3.1; omega) ?_ ?_).trans ?_
  · intro nx; rw [hz]; simp [RsMachineOk_4]
  · intro nx t ht hW
    have ht1 : t < m.ths.length := by omega
    have ht2 : t < p.codes.length := by omega
    have hbt := hb3.2 _ (List.getElem_mem ht1)
    have hbuf := iter_all (h := hsMachineOk_15) (fb := RsMachineOk_15 (fun y28 y29 y30 y31 y32 y33 y34 y35 y36 y37 y38 y39 y40 y41 => fr false 2 [.one (.bool y28)]) (fun y42 y43 y44 y45 y46 y47 y48 y49 y50 y51 y52 y53 y54 => nx (W (y42 + 1)) y43 y44 y45 y46 y47 y48 y49)) m.ths[t].buf
      (fun j f => f (t : Int) (j : Int) p.cells none (p.codes.map (encCode false)) none (m.cells.map encInt) none (m.ths.map (encTh false)) m.ths[t].pc none (m.ths[t].vals.map encInt) none (m.ths[t].buf.map encSlot)) (fun s => decide (s.a < p.cells))
      (nx ((t : Int) + 1) p.cells none (p.codes.map (encCode false)) none (m.cells.map encInt) none (m.ths.map (encTh false))) (fr false 2 [.one (.bool false)]) (by omega) (by intro nx2; simp [RsMachineOk_15, hW]) (by
        intro nx2 j hj hW2
        by_cases e : m.ths[t].buf[j].a < p.cells
        · have e' : ¬ m.ths[t].buf[j].a ≥ p.cells := by omega
          simp [RsMachineOk_15, hj, hW2, e, e']
        · have e' : m.ths[t].buf[j].a ≥ p.cells := by omega
          simp [RsMachineOk_15, hj, hW2, e, e'])
    have hvals := iter_all (h := hsMachineOk_10) (fb := RsMachineOk_10 (fun y1 y2 y3 y4 y5 y6 y7 y8 y9 y10 y11 y12 y13 y14 => fr false 2 [.one (.bool y1)]) (fun y15 y16 y17 y18 y19 y20 y21 y22 y23 y24 y25 y26 y27 => iterC (RsMachineOk_15 (fun y28 y29 y30 y31 y32 y33 y34 y35 y36 y37 y38 y39 y40 y41 => fr false 2 [.one (.bool y28)]) (fun y42 y43 y44 y45 y46 y47 y48 y49 y50 y51 y52 y53 y54 => nx (W (y42 + 1)) y43 y44 y45 y46 y47 y48 y49)) FUEL y15 0 y16 y17 y18 y19 y20 y21 y22 y23 y24 y25 y26 y27)) m.ths[t].vals
      (fun j f => f (t : Int) (j : Int) p.cells none (p.codes.map (encCode false)) none (m.cells.map encInt) none (m.ths.map (encTh false)) m.ths[t].pc none (m.ths[t].vals.map encInt) none (m.ths[t].buf.map encSlot)) isV
      (bif m.ths[t].buf.all (fun s => decide (s.a < p.cells)) then nx ((t : Int) + 1) p.cells none (p.codes.map (encCode false)) none (m.cells.map encInt) none (m.ths.map (encTh false)) else fr false 2 [.one (.bool false)]) (fr false 2 [.one (.bool false)]) (by omega) (by
        intro nx2
        rw [← hbuf]
        simp [RsMachineOk_10]) (by
        intro nx2 j hj hW2
        simp [RsMachineOk_10, hj, hW2, Fsl01Value_at]
        try (cases isV m.ths[t].vals[j] <;> simp))
    simp only [List.getElem_zip, thOk]
    by_cases hv4 : m.ths[t].vals.length = 4
    · have hv4' : ((m.ths[t].vals.length : Int) != 4) = false := by simp [hv4]
      cases hpc : inB m.ths[t].pc 0 p.codes[t].length
      · simp [RsMachineOk_4, ht1, ht2, Fsl01In_at, hpc]
      · cases hbo : bufOk m.ths[t].buf
        · simp [RsMachineOk_4, ht1, ht2, Fsl01In_at, hpc, hv4', FsBufOk_at none _ hbt.2, hbo]
        · simp only [RsMachineOk_4]
          simp only [Int.natCast_zero] at hvals
          simp only [hv4, beq_self_eq_true, Bool.true_and]
          refine Eq.trans ?_ (hvals.trans ?_)
          · simp [ht1, ht2, Fsl01In_at, hpc, hv4', FsBufOk_at none _ hbt.2, hbo]
          · cases m.ths[t].vals.all isV <;> cases m.ths[t].buf.all (fun s => decide (s.a < p.cells)) <;> simp
    · have hv4' : ((m.ths[t].vals.length : Int) != 4) = true := by simp; omega
      have hv5 : (m.ths[t].vals.length == 4) = false := by simpa using hv4
      cases hpc : inB m.ths[t].pc 0 p.codes[t].length <;> simp [RsMachineOk_4, ht1, ht2, Fsl01In_at, hpc, hv4', hv5]
  · simp only [h3, h4, decide_true, Bool.true_and]
    cases (m.ths.zip p.codes).all fun x => thOk p.cells x.1 x.2 <;> simp
end Go.Proofs.Gh.Gm
set_option linter.unusedVariables false
set_option linter.unusedSimpArgs false
set_option maxRecDepth 100000
set_option maxHeartbeats 2000000
namespace Go.Proofs.Gh.Gm
def tys_m13 : List (Nat × TI) := [(3, ⟨false, 8, [.int .i64], [.int 0], .scalar, false, none⟩),
  (4, ⟨false, 1, [.bool], [.bool false], .scalar, false, none⟩),
  (64, ⟨false, 24, [.sl 1], [.sl true (some true) 1 []], .slice 69, false, none⟩),
  (66, ⟨true, 32, [.int .i64, .sl 1], [.int 0, .sl true (some true) 1 []], .struct [(0, 1, false), (1, 1, false)], false, none⟩),
  (69, ⟨false, 24, [.sl 4], [.sl true (some true) 4 []], .slice 135, false, none⟩),
  (72, ⟨false, 24, [.sl 3], [.sl true (some true) 3 []], .slice 84, false, none⟩),
  (74, ⟨true, 48, [.sl 1, .sl 3], [.sl true (some true) 1 [], .sl true (some true) 3 []], .struct [(0, 1, true), (1, 1, false)], false, none⟩),
  (78, ⟨true, 16, [.int .i64, .bool], [.int 0, .bool false], .struct [(0, 1, false), (1, 1, false)], true, none⟩),
  (82, ⟨false, 24, [.sl 2], [.sl true (some true) 2 []], .slice 144, false, none⟩),
  (84, ⟨true, 56, [.int .i64, .sl 1, .sl 2], [.int 0, .sl true (some true) 1 [], .sl true (some true) 2 []], .struct [(0, 1, false), (1, 1, false), (2, 1, false)], false, none⟩),
  (135, ⟨true, 32, [.int .i64, .int .i64, .int .i64, .int .i64], [.int 0, .int 0, .int 0, .int 0], .struct [(0, 1, false), (1, 1, false), (2, 1, false), (3, 1, false)], true, none⟩)]
theorem tys_m13_eq : tys_m13.map (fun x => tiOf Go.Proofs.Try.prog x.1 x.2.cks) = tys_m13.map fun x => some x.2 := by kernel_rfl
/-! sl04Can: loop.example/g00712/spec.l04Can -/
noncomputable def Qsl04Can : Fx := ⟨Go.Proofs.Try.f117, [.ro, .ro, .ro], false, mkEnv tys_m13 [(165, SsHasFence)] [], fun id => bif Nat.beq id 4 then .sq [0, 1, 2, 3, 4, 5, 6, 7, 8, 9] .stop else bif Nat.beq id 6 then .sq [0, 1, 2, 3, 4, 5, 6, 7, 8, 9, 10, 11] .stop else .stop, []⟩
noncomputable def Fsl04Can : List S → Option Res := veil Qsl04Can.run
noncomputable def Ssl04Can : Spec := ⟨[.ro, .ro, .ro], false, Fsl04Can⟩
theorem msl04Can (x1 : Int) (x2 : List (List C)) (x3 : List (List C)) (x4 : List (List C)) (x5 : Int) (x6 : Bool) : Fsl04Can [.agg [.int x1, .sl false none 1 x2], .agg [.sl false none 1 x3, .sl false none 3 x4], .agg [.int x5, .bool x6]] = ix x5 x4 ((x4[Int.toNat x5]?).bind fun w1 => tRo [.int .i64, .sl 1, .sl 2] w1 fun n1 _ l1 _ l2 => bif x6 then fr false 3 [.one (.bool (decide ((l2.length : Int) > 0)))] else ix x5 x2 ((x2[Int.toNat x5]?).bind fun w2 => tRo [.sl 4] w2 fun _ l3 => bif n1 == (l3.length : Int) then fr false 3 [.one (.bool false)] else ix x5 x2 ((x2[Int.toNat x5]?).bind fun w3 => tRo [.sl 4] w3 fun _ l4 => ix n1 l4 ((l4[Int.toNat n1]?).bind fun w4 => tRo [.int .i64, .int .i64, .int .i64, .int .i64] w4 fun n2 n3 n4 n5 => bif n2 == 3 then fr false 3 [.one (.bool (decide ((l2.length : Int) < 3)))] else cV false [.bool] (FsHasFence [.agg [.int n2, .int n3, .int n4, .int n5]]) fun b1 => bif !b1 then fr false 3 [.one (.bool true)] else fr false 3 [.one (.bool ((l2.length : Int) == 0))])))) := Fx.eq (by kernel_rfl)
theorem oksl04Can : CalleeOk Go.Proofs.Try.prog 117 Ssl04Can := Fx.ok (F := Qsl04Can) follows (envTy_mk tys_m13_eq) (envSpec_of (specsOk_cons oksHasFence specsOk_nil)) Go.Proofs.Try.func117 (by kernel_rfl) (by kernel_rfl) (by rw [show subs Qsl04Can.code = [] by kernel_rfl]; trivial) (by kernel_rfl) (by kernel_rfl) rfl
theorem Fsl04Can_at (p : Prog) (m : Machine) (t : Int) (dr : Bool) (h : isMa p m = true ∧ 0 ≤ t ∧ t < m.ths.length) : Fsl04Can [S.agg (encProg false p), S.agg (encMa false m), S.agg [C.int t, C.bool dr]] = some (S.one (C.bool (canMv p m t dr)), [S.one C.unk, S.one C.unk, S.one C.unk]) := by
  obtain ⟨h1, h2, h3⟩ := h
  obtain ⟨n, rfl⟩ := Int.eq_ofNat_of_zero_le h2
  have hn : n < m.ths.length := by omega
  obtain ⟨hc, hth⟩ := isMa_th h1 hn
  obtain ⟨⟨hp1, hp2⟩, _⟩ := thOk_iff.1 hth
  obtain ⟨k, hk⟩ := Int.eq_ofNat_of_zero_le hp1
  have hin : inB (n : Int) 0 ((m.ths.length : Int) - 1) = true := by simp [inB]; omega
  rw [msl04Can]
  simp only [canMv, hin, Bool.true_and, Int.toNat_natCast, List.getElem?_eq_getElem hn, List.getElem?_eq_getElem hc]
  cases dr
  · by_cases e : k = p.codes[n].length
    · have e1 : p.codes[n][k]? = none := by simp [e]
      simp [hn, hc, hk, e, e1]
    · have hkl : k < p.codes[n].length := by omega
      have e2 : ((k : Int) == (p.codes[n].length : Int)) = false := by simp; omega
      simp [hn, hc, hk, e2, hkl, FsHasFence_at p.codes[n][k]]
      have eb : ((m.ths[n].buf.length : Int) == 0) = (m.ths[n].buf.length == 0) := by rw [Bool.eq_iff_iff]; simp
      cases (p.codes[n][k].op == 3)
      · cases fenceI p.codes[n][k] <;> simp [eb]
      · simp; omega
  · simp [hn, hc]
/-! sCanMove: loop.example/g00712/spec.CanMove -/
noncomputable def QsCanMove : Fx := ⟨Go.Proofs.Try.f61, [.ro, .ro, .ro], false, mkEnv tys_m13 [(117, Ssl04Can), (59, SsMachineOk), (63, Ssl01In)] [], fun _ => .stop, []⟩
noncomputable def FsCanMove : List S → Option Res := veil QsCanMove.run
noncomputable def SsCanMove : Spec := ⟨[.ro, .ro, .ro], false, FsCanMove⟩
theorem msCanMove (x1 : Int) (x2 : List (List C)) (x3 : List (List C)) (x4 : List (List C)) (x5 : Int) (x6 : Bool) : FsCanMove [.agg [.int x1, .sl false none 1 x2], .agg [.sl false none 1 x3, .sl false none 3 x4], .agg [.int x5, .bool x6]] = cV false [.bool] (FsMachineOk [.agg [.int x1, .sl false none 1 x2], .agg [.sl false none 1 x3, .sl false none 3 x4]]) fun b1 => bif b1 then cV false [.bool] (Fsl01In [.one (.int x5), .one (.int 0), .one (.int (W ((x2.length : Int) - 1)))]) fun b2 => bif b2 then cV false [.bool] (Fsl04Can [.agg [.int x1, .sl false none 1 x2], .agg [.sl false none 1 x3, .sl false none 3 x4], .agg [.int x5, .bool x6]]) fun b3 => fr false 3 [.one (.bool b3)] else fr false 3 [.one (.bool false)] else fr false 3 [.one (.bool false)] := Fx.eq (by kernel_rfl)
theorem oksCanMove : CalleeOk Go.Proofs.Try.prog 61 SsCanMove := Fx.ok (F := QsCanMove) follows (envTy_mk tys_m13_eq) (envSpec_of (specsOk_cons oksl04Can (specsOk_cons oksMachineOk (specsOk_cons oksl01In specsOk_nil)))) Go.Proofs.Try.func61 (by kernel_rfl) (by kernel_rfl) (by rw [show subs QsCanMove.code = [] by kernel_rfl]; trivial) (by kernel_rfl) (by kernel_rfl) rfl
theorem FsCanMove_at (p : Prog) (m : Machine) (t : Int) (dr : Bool) (h : bndL p.codes ∧ smallL m.cells ∧ bndT m.ths) : FsCanMove [S.agg (encProg false p), S.agg (encMa false m), S.agg [C.int t, C.bool dr]] = some (S.one (C.bool (canP p m t dr)), [S.one C.unk, S.one C.unk, S.one C.unk]) := by
  rw [msCanMove, FsMachineOk_at p m h]
  simp only [canP]
  cases h1 : progOk p
  · simp
  cases h2 : isMa p m
  · simp
  have hl := (isMa_iff.1 h2).2.2.1
  have hb := isMa_bT h1 h2
  have hw : W ((p.codes.length : Int) - 1) = (p.codes.length : Int) - 1 := W_eq (by omega) (by omega)
  simp only [List.length_map, hw, Fsl01In_at]
  cases hi : inB t 0 ((p.codes.length : Int) - 1)
  · have hi' : inB t 0 ((m.ths.length : Int) - 1) = false := by rw [hl]; exact hi
    simp [canMv, hi']
  · have hi' := hi
    simp only [inB, Bool.and_eq_true, decide_eq_true_eq] at hi'
    simp [Fsl04Can_at p m t dr ⟨h2, hi'.1, by omega⟩]
end Go.Proofs.Gh.Gm
