/- The program's functions by the ghost evaluator: what each computes, and that it does. -/
import Derived.Test.YtnnbpmemkekbfaaGreatGh47
import Derived.Test.YtnnbpmemkekbfaaGreatGh48
import Derived.Test.YtnnbpmemkekbfaaGreatGh45
import Derived.Test.YtnnbpmemkekbfaaGreatProg
import Derived.KernelRfl
import Derived.Test.YtnnbpmemkekbfaaGreatQc
set_option linter.unusedVariables false
set_option linter.unusedSimpArgs false
set_option maxRecDepth 100000
set_option maxHeartbeats 2000000
namespace Go.Proofs.Gh.Gm
def tys_z1 : List (Nat × TI) := [(3, ⟨false, 8, [.int .i64], [.int 0], .scalar, false⟩),
  (25, ⟨false, 24, [.sl 1], [.sl true (some true) 1 []], .slice 3, false⟩),
  (27, ⟨true, 24, [.sl 1], [.sl true (some true) 1 []], .struct [(0, 1, false)], false⟩),
  (28, ⟨false, 24, [.sl 3], [.sl true (some true) 3 []], .slice 85, false⟩),
  (30, ⟨true, 48, [.sl 1, .sl 3], [.sl true (some true) 1 [], .sl true (some true) 3 []], .struct [(0, 1, true), (1, 1, false)], false⟩),
  (35, ⟨true, 24, [.sl 1], [.sl true (some true) 1 []], .struct [(0, 1, false)], false⟩),
  (36, ⟨false, 24, [.sl 3], [.sl true (some true) 3 []], .slice 75, false⟩),
  (38, ⟨true, 48, [.sl 1, .sl 3], [.sl true (some true) 1 [], .sl true (some true) 3 []], .struct [(0, 1, true), (1, 1, false)], false⟩),
  (73, ⟨false, 24, [.sl 2], [.sl true (some true) 2 []], .slice 90, false⟩),
  (75, ⟨true, 56, [.int .i64, .sl 1, .sl 2], [.int 0, .sl true (some true) 1 [], .sl true (some true) 2 []], .struct [(0, 1, false), (1, 1, false), (2, 1, false)], false⟩),
  (83, ⟨false, 24, [.sl 2], [.sl true (some true) 2 []], .slice 126, false⟩),
  (85, ⟨true, 56, [.int .i64, .sl 1, .sl 2], [.int 0, .sl true (some true) 1 [], .sl true (some true) 2 []], .struct [(0, 1, false), (1, 1, false), (2, 1, false)], false⟩),
  (90, ⟨true, 16, [.int .i64, .int .i64], [.int 0, .int 0], .struct [(0, 1, false), (1, 1, false)], true⟩),
  (126, ⟨true, 16, [.int .i64, .int .i64], [.int 0, .int 0], .struct [(0, 1, false), (1, 1, false)], true⟩)]
theorem tys_z1_eq : tys_z1.map (fun x => tiOf Go.Proofs.Tryz.prog x.1 x.2.cks) = tys_z1.map fun x => some x.2 := by kernel_rfl
/-! wszIntS: loop.example/g00712/laws.szIntS -/
noncomputable def QwszIntS : Fx := ⟨Go.Proofs.Tryz.f46, [.ro, .ro], false, mkEnv tys_z1 [] [], fun _ => .stop, []⟩
noncomputable def FwszIntS : List S → Option Res := veil QwszIntS.run
noncomputable def SwszIntS : Spec := ⟨[.ro, .ro], false, FwszIntS⟩
theorem mwszIntS (x1 : Option Bool) (x2 : List (List C)) (x3 : Int) : FwszIntS [.one (.sl false x1 1 x2), .one (.int x3)] = bif decide (W (x3 - (x2.length : Int)) < 0) then fr false 2 [.one (.int (-1))] else fr false 2 [.one (.int (W (x3 - (x2.length : Int))))] := Fx.eq (by kernel_rfl)
theorem okwszIntS : CalleeOk Go.Proofs.Tryz.prog 46 SwszIntS := Fx.ok (F := QwszIntS) follows (envTy_mk tys_z1_eq) (envSpec_of (specsOk_nil)) Go.Proofs.Tryz.func46 (by kernel_rfl) (by kernel_rfl) (by rw [show subs QwszIntS.code = [] by kernel_rfl]; trivial) (by kernel_rfl) (by kernel_rfl) rfl
theorem FwszIntS_at (nl : Option Bool) (l : List Int) (n : Int) (h : l.length ≤ 9223372036854775807 ∧ 0 ≤ n ∧ n ≤ 1048576) : FwszIntS [S.one (C.sl false nl 1 (l.map encInt)), S.one (C.int n)] = some (S.one (C.int (if (l.length : Int) ≤ n then n - l.length else -1)), [S.one C.unk, S.one C.unk]) := by
  simp only [mwszIntS, List.length_map]
  rw [W_eq (by omega) (by omega)]
  by_cases hn : (l.length : Int) ≤ n
  · have : ¬ n - (l.length : Int) < 0 := by omega
    simp [hn, this]
  · have : n - (l.length : Int) < 0 := by omega
    simp [hn, this]
/-! wtoIntS: loop.example/g00712/laws.toIntS -/
@[reducible] def hwtoIntS_3 : Sh := ⟨[.one (.o (.sl false 1)), .one (.o (.al 2 0 [])), .one (.o (.i .i64))], [(true, [.o .u]), (true, [.o .u]), (true, [.o (.sl true 1)])]⟩
@[reducible] def xwtoIntS_3 : List (Ex × Sh) := [(.exit 0, ⟨[.one (.o (.al 2 0 []))], [(true, [.o .u]), (true, [.o .u]), (true, [.o (.sl true 1)])]⟩)]
noncomputable def RwtoIntS_3 : KC xwtoIntS_3 (hwtoIntS_3.K → hwtoIntS_3.K) := fun k0 nx v1 v2 v3 v4 v5 => bif decide (v3 < (v2.length : Int)) then ix v3 v2 ((v2[Int.toNat v3]?).bind fun w1 => tRo [.int .i64] w1 fun n1 => ix v3 v5 (oc (.int .i64) v5 (Int.toNat v3) 0 ((let e1 : List (List C) := md v5 (Int.toNat v3) 0 (.int n1); nx v1 v2 (W (v3 + 1)) v4 e1)))) else k0 v4 v5
noncomputable def LwtoIntS_3 : Lp := ⟨3, [0, 3, 4], [3], 2, 22, hwtoIntS_3, xwtoIntS_3, RwtoIntS_3⟩
noncomputable def QwtoIntS : Fx := ⟨Go.Proofs.Tryz.f55, [.ro], false, mkEnv tys_z1 [] [], fun _ => .stop, [LwtoIntS_3]⟩
noncomputable def FwtoIntS : List S → Option Res := veil QwtoIntS.run
noncomputable def SwtoIntS : Spec := ⟨[.ro], false, FwtoIntS⟩
theorem mwtoIntS (x1 : Option Bool) (x2 : List (List C)) : FwtoIntS [.one (.sl false x1 1 x2)] = if 0 ≤ (x2.length : Int) ∧ (x2.length : Int) ≤ (x2.length : Int) ∧ (x2.length : Int) * 8 ≤ (LIM : Int) ∧ 0 < 1 then iterC (RwtoIntS_3 (fun y1 y2 => fr false 1 [.one (.sl true y1 1 y2)])) FUEL x1 x2 0 (some false) (List.replicate (Int.toNat (x2.length : Int)) [.int 0]) else none := Fx.eq (by kernel_rfl)
theorem stwtoIntS_3 : LwtoIntS_3.Step QwtoIntS.E QwtoIntS.dr QwtoIntS.lp ((findLoop 3 QwtoIntS.code).getD .skip) := fun k nx v => by kernel_rfl
theorem okwtoIntS : CalleeOk Go.Proofs.Tryz.prog 55 SwtoIntS := Fx.ok (F := QwtoIntS) follows (envTy_mk tys_z1_eq) (envSpec_of (specsOk_nil)) Go.Proofs.Tryz.func55 (by kernel_rfl) (by kernel_rfl) (by
  rw [show subs QwtoIntS.code = [(findLoop 3 QwtoIntS.code).getD .skip] by kernel_rfl]
  exact ⟨stepAt_some (by kernel_rfl) stwtoIntS_3, trivial⟩) (by kernel_rfl) (by kernel_rfl) rfl
theorem FwtoIntS_at (nl : Option Bool) (l : List Int) (h : l.length ≤ 1048576) : FwtoIntS [S.one (C.sl false nl 1 (l.map encInt))] = some (S.one (C.sl true (some false) 1 (l.map encInt)), [S.one C.unk]) := by
  have hz : List.replicate l.length [.int 0] = (List.replicate l.length (0 : Int)).map encInt := by simp
  rw [mwtoIntS, if_pos (by simp [LIM]; omega), List.length_map, Int.toNat_natCast, hz]
  have key : ∀ k0 : Option Bool → List (List C) → Option Res, iterC (RwtoIntS_3 k0) FUEL nl (l.map encInt) 0 (some false) ((List.replicate l.length (0 : Int)).map encInt) = k0 (some false) (l.map encInt) := fun k0 => by
    refine (iter_set (h := hwtoIntS_3) (List.replicate l.length (0 : Int)) (fun i => l.getD i 0) (fun i a f => f nl (l.map encInt) (i : Int) (some false) (a.map encInt)) (fun a => k0 (some false) (a.map encInt)) (by simp; omega) ?_ ?_).trans ?_
    · intro nx a ha
      simp [RwtoIntS_3]
    · intro nx i a hi ha hW
      have hi' : i < l.length := by simpa [ha] using hi
      simp [-List.map_set, RwtoIntS_3, hi', hi, hW, List.getD, List.getElem?_eq_getElem hi']
    · congr 2
      apply List.ext_getElem
      · simp
      · intro k h1 h2
        simp only [List.length_map, List.length_range, List.length_replicate] at h1
        simp [List.getD, h2]
  rw [key]
  simp
/-! wszSlotS: loop.example/g00712/laws.szSlotS -/
noncomputable def QwszSlotS : Fx := ⟨Go.Proofs.Tryz.f79, [.ro, .ro], false, mkEnv tys_z1 [] [], fun _ => .stop, []⟩
noncomputable def FwszSlotS : List S → Option Res := veil QwszSlotS.run
noncomputable def SwszSlotS : Spec := ⟨[.ro, .ro], false, FwszSlotS⟩
theorem mwszSlotS (x1 : Option Bool) (x2 : List (List C)) (x3 : Int) : FwszSlotS [.one (.sl false x1 2 x2), .one (.int x3)] = bif decide (W (x3 - (x2.length : Int)) < 0) then fr false 2 [.one (.int (-1))] else fr false 2 [.one (.int (W (x3 - (x2.length : Int))))] := Fx.eq (by kernel_rfl)
theorem okwszSlotS : CalleeOk Go.Proofs.Tryz.prog 79 SwszSlotS := Fx.ok (F := QwszSlotS) follows (envTy_mk tys_z1_eq) (envSpec_of (specsOk_nil)) Go.Proofs.Tryz.func79 (by kernel_rfl) (by kernel_rfl) (by rw [show subs QwszSlotS.code = [] by kernel_rfl]; trivial) (by kernel_rfl) (by kernel_rfl) rfl
theorem FwszSlotS_at (nl : Option Bool) (l : List Slot) (n : Int) (h : l.length ≤ 9223372036854775807 ∧ 0 ≤ n ∧ n ≤ 1048576) : FwszSlotS [S.one (C.sl false nl 2 (l.map encSlot)), S.one (C.int n)] = some (S.one (C.int (if (l.length : Int) ≤ n then n - l.length else -1)), [S.one C.unk, S.one C.unk]) := by
  simp only [mwszSlotS, List.length_map]
  rw [W_eq (by omega) (by omega)]
  by_cases hn : (l.length : Int) ≤ n
  · have : ¬ n - (l.length : Int) < 0 := by omega
    simp [hn, this]
  · have : n - (l.length : Int) < 0 := by omega
    simp [hn, this]
/-! wtoSlot: loop.example/g00712/laws.toSlot -/
noncomputable def QwtoSlot : Fx := ⟨Go.Proofs.Tryz.f99, [.ro], false, mkEnv tys_z1 [] [], fun _ => .stop, []⟩
noncomputable def FwtoSlot : List S → Option Res := veil QwtoSlot.run
noncomputable def SwtoSlot : Spec := ⟨[.ro], false, FwtoSlot⟩
theorem mwtoSlot (x1 : Int) (x2 : Int) : FwtoSlot [.agg [.int x1, .int x2]] = fr false 1 [.agg [.int x1, .int x2]] := Fx.eq (by kernel_rfl)
theorem okwtoSlot : CalleeOk Go.Proofs.Tryz.prog 99 SwtoSlot := Fx.ok (F := QwtoSlot) follows (envTy_mk tys_z1_eq) (envSpec_of (specsOk_nil)) Go.Proofs.Tryz.func99 (by kernel_rfl) (by kernel_rfl) (by rw [show subs QwtoSlot.code = [] by kernel_rfl]; trivial) (by kernel_rfl) (by kernel_rfl) rfl
theorem FwtoSlot_at (c : Slot) : FwtoSlot [S.agg (encSlot c)] = some (S.agg (encSlot c), [S.one C.unk]) := by
  simp [mwtoSlot, encSlot, C.weak]
/-! wtoSlotS: loop.example/g00712/laws.toSlotS -/
@[reducible] def hwtoSlotS_3 : Sh := ⟨[.one (.o (.sl false 2)), .one (.o (.al 2 0 [])), .one (.o (.i .i64))], [(true, [.o .u]), (true, [.o .u]), (true, [.o (.sl true 2)])]⟩
@[reducible] def xwtoSlotS_3 : List (Ex × Sh) := [(.exit 0, ⟨[.one (.o (.al 2 0 []))], [(true, [.o .u]), (true, [.o .u]), (true, [.o (.sl true 2)])]⟩)]
noncomputable def RwtoSlotS_3 : KC xwtoSlotS_3 (hwtoSlotS_3.K → hwtoSlotS_3.K) := fun k0 nx v1 v2 v3 v4 v5 => bif decide (v3 < (v2.length : Int)) then ix v3 v2 ((v2[Int.toNat v3]?).bind fun w1 => tRo [.int .i64, .int .i64] w1 fun n1 n2 => cV true [.int .i64, .int .i64] (FwtoSlot [.agg [.int n1, .int n2]]) fun n3 n4 => ix v3 v5 (oc (.int .i64) v5 (Int.toNat v3) 0 ((let e1 : List (List C) := md v5 (Int.toNat v3) 0 (.int n3); oc (.int .i64) e1 (Int.toNat v3) 1 ((let e2 : List (List C) := md e1 (Int.toNat v3) 1 (.int n4); nx v1 v2 (W (v3 + 1)) v4 e2)))))) else k0 v4 v5
noncomputable def LwtoSlotS_3 : Lp := ⟨3, [0, 3, 4], [3], 2, 23, hwtoSlotS_3, xwtoSlotS_3, RwtoSlotS_3⟩
noncomputable def QwtoSlotS : Fx := ⟨Go.Proofs.Tryz.f83, [.ro], false, mkEnv tys_z1 [(99, SwtoSlot)] [], fun _ => .stop, [LwtoSlotS_3]⟩
noncomputable def FwtoSlotS : List S → Option Res := veil QwtoSlotS.run
noncomputable def SwtoSlotS : Spec := ⟨[.ro], false, FwtoSlotS⟩
theorem mwtoSlotS (x1 : Option Bool) (x2 : List (List C)) : FwtoSlotS [.one (.sl false x1 2 x2)] = if 0 ≤ (x2.length : Int) ∧ (x2.length : Int) ≤ (x2.length : Int) ∧ (x2.length : Int) * 16 ≤ (LIM : Int) ∧ 0 < 2 then iterC (RwtoSlotS_3 (fun y1 y2 => fr false 1 [.one (.sl true y1 2 y2)])) FUEL x1 x2 0 (some false) (List.replicate (Int.toNat (x2.length : Int)) [.int 0, .int 0]) else none := Fx.eq (by kernel_rfl)
theorem stwtoSlotS_3 : LwtoSlotS_3.Step QwtoSlotS.E QwtoSlotS.dr QwtoSlotS.lp ((findLoop 3 QwtoSlotS.code).getD .skip) := fun k nx v => by kernel_rfl
theorem okwtoSlotS : CalleeOk Go.Proofs.Tryz.prog 83 SwtoSlotS := Fx.ok (F := QwtoSlotS) follows (envTy_mk tys_z1_eq) (envSpec_of (specsOk_cons okwtoSlot specsOk_nil)) Go.Proofs.Tryz.func83 (by kernel_rfl) (by kernel_rfl) (by
  rw [show subs QwtoSlotS.code = [(findLoop 3 QwtoSlotS.code).getD .skip] by kernel_rfl]
  exact ⟨stepAt_some (by kernel_rfl) stwtoSlotS_3, trivial⟩) (by kernel_rfl) (by kernel_rfl) rfl
theorem FwtoSlotS_at (nl : Option Bool) (l : List Slot) (h : l.length ≤ 1048576) : FwtoSlotS [S.one (C.sl false nl 2 (l.map encSlot))] = some (S.one (C.sl true (some false) 2 (l.map encSlot)), [S.one C.unk]) := by
  have hz : List.replicate l.length [.int 0, .int 0] = (List.replicate l.length (⟨0, 0⟩ : Slot)).map encSlot := by simp
  rw [mwtoSlotS, if_pos (by simp [LIM]; omega), List.length_map, Int.toNat_natCast, hz]
  have key : ∀ k0 : Option Bool → List (List C) → Option Res, iterC (RwtoSlotS_3 k0) FUEL nl (l.map encSlot) 0 (some false) ((List.replicate l.length (⟨0, 0⟩ : Slot)).map encSlot) = k0 (some false) (l.map encSlot) := fun k0 => by
    refine (iter_set (h := hwtoSlotS_3) (List.replicate l.length (⟨0, 0⟩ : Slot)) (fun i => l.getD i ⟨0, 0⟩) (fun i a f => f nl (l.map encSlot) (i : Int) (some false) (a.map encSlot)) (fun a => k0 (some false) (a.map encSlot)) (by simp; omega) ?_ ?_).trans ?_
    · intro nx a ha
      simp [RwtoSlotS_3]
    · intro nx i a hi ha hW
      have hi' : i < l.length := by simpa [ha] using hi
      simp [-List.map_set, RwtoSlotS_3, FwtoSlot_at, hi', hi, hW, List.getD, List.getElem?_eq_getElem hi']
    · congr 2
      apply List.ext_getElem
      · simp
      · intro k h1 h2
        simp only [List.length_map, List.length_range, List.length_replicate] at h1
        simp [List.getD, h2]
  rw [key]
  simp
def tS (t : Thread) : Nat := t.vals.length + t.buf.length
def thsS : List Thread → Nat
  | [] => 0
  | t :: l => tS t + thsS l
def bndTZ (l : List Thread) : Prop := l.length ≤ 9223372036854775807 ∧ ∀ t ∈ l, t.vals.length ≤ 9223372036854775807 ∧ t.buf.length ≤ 9223372036854775807
theorem thsS_mem {l : List Thread} {t : Thread} (h : t ∈ l) : tS t ≤ thsS l := by
  induction l with
  | nil => cases h
  | cons a l ih =>
    rcases List.mem_cons.1 h with rfl | h
    · simp only [thsS]; omega
    · have := ih h
      simp only [thsS]; omega
theorem take0_add {s u : Nat} {n : Int} (h : (s : Int) ≤ n) : take0 (s + u) n = take0 u (n - s) := by
  simp only [take0, Int.natCast_add]
  by_cases hs : (u : Int) ≤ n - s
  · rw [if_pos (by omega), if_pos hs]; omega
  · rw [if_neg (by omega), if_neg hs]
theorem take0_not {s u : Nat} {n : Int} (h : ¬ (s : Int) ≤ n) : take0 (s + u) n = -1 := by
  simp only [take0, Int.natCast_add]
  rw [if_neg (by omega)]
theorem take0_pos {s : Nat} {n : Int} (h : (s : Int) ≤ n) : take0 s n = n - s := if_pos h
theorem take0_neg {s : Nat} {n : Int} (h : ¬ (s : Int) ≤ n) : take0 s n = -1 := if_neg h
/-! wszThread: loop.example/g00712/laws.szThread -/
noncomputable def QwszThread : Fx := ⟨Go.Proofs.Tryz.f47, [.ro, .ro], false, mkEnv tys_z1 [(46, SwszIntS), (79, SwszSlotS)] [], fun _ => .stop, []⟩
noncomputable def FwszThread : List S → Option Res := veil QwszThread.run
noncomputable def SwszThread : Spec := ⟨[.ro, .ro], false, FwszThread⟩
theorem mwszThread (x1 : Int) (x2 : List (List C)) (x3 : List (List C)) (x4 : Int) : FwszThread [.agg [.int x1, .sl false none 1 x2, .sl false none 2 x3], .one (.int x4)] = cV false [.int .i64] (FwszIntS [.one (.sl false none 1 x2), .one (.int x4)]) fun n1 => bif decide (n1 < 0) then fr false 2 [.one (.int (-1))] else cV false [.int .i64] (FwszSlotS [.one (.sl false none 2 x3), .one (.int n1)]) fun n2 => bif decide (n2 < 0) then fr false 2 [.one (.int (-1))] else fr false 2 [.one (.int n2)] := Fx.eq (by kernel_rfl)
theorem okwszThread : CalleeOk Go.Proofs.Tryz.prog 47 SwszThread := Fx.ok (F := QwszThread) follows (envTy_mk tys_z1_eq) (envSpec_of (specsOk_cons okwszIntS (specsOk_cons okwszSlotS specsOk_nil))) Go.Proofs.Tryz.func47 (by kernel_rfl) (by kernel_rfl) (by rw [show subs QwszThread.code = [] by kernel_rfl]; trivial) (by kernel_rfl) (by kernel_rfl) rfl
theorem FwszThread_at (t : Thread) (n : Int) (h : t.vals.length ≤ 9223372036854775807 ∧ t.buf.length ≤ 9223372036854775807 ∧ 0 ≤ n ∧ n ≤ 1048576) : FwszThread [S.agg (encTh false t), S.one (C.int n)] = some (S.one (C.int (take0 (tS t) n)), [S.one C.unk, S.one C.unk]) := by
  obtain ⟨h1, h2, h3, h4⟩ := h
  rw [mwszThread, FwszIntS_at none t.vals n ⟨h1, h3, h4⟩]
  unfold tS
  by_cases e : (t.vals.length : Int) ≤ n
  · have e0 : ¬ n - (t.vals.length : Int) < 0 := by omega
    rw [take0_add e, if_pos e]
    have hf := FwszSlotS_at none t.buf (n - t.vals.length) ⟨h2, by omega, by omega⟩
    by_cases e2 : (t.buf.length : Int) ≤ n - t.vals.length
    · have e3 : ¬ n - (t.vals.length : Int) - (t.buf.length : Int) < 0 := by omega
      rw [if_pos e2] at hf
      simp [hf, e0, e3, take0_pos e2]
    · rw [if_neg e2] at hf
      simp [hf, e0, take0_neg e2]
  · rw [take0_not e, if_neg e]
    simp
/-! wszThreadS: loop.example/g00712/laws.szThreadS -/
@[reducible] def hwszThreadS_5 : Sh := ⟨[.one (.o (.sl false 3)), .one (.o (.i .i64)), .one (.o (.i .i64))], []⟩
@[reducible] def xwszThreadS_5 : List (Ex × Sh) := [(.ret, ⟨[.one (.o (.i .i64)), .one (.o (.i .i64))], []⟩), (.exit 0, ⟨[.one (.o (.i .i64)), .one (.o .u)], []⟩)]
noncomputable def RwszThreadS_5 : KC xwszThreadS_5 (hwszThreadS_5.K → hwszThreadS_5.K) := fun k0 k1 nx v1 v2 v3 v4 => bif decide (v4 < (v2.length : Int)) then ix v4 v2 ((v2[Int.toNat v4]?).bind fun w1 => tRo [.int .i64, .sl 1, .sl 2] w1 fun n1 _ l1 _ l2 => cV false [.int .i64] (FwszThread [.agg [.int n1, .sl false none 1 l1, .sl false none 2 l2], .one (.int v3)]) fun n2 => bif decide (n2 < 0) then k0 n2 (-1) else nx v1 v2 n2 (W (v4 + 1))) else k1 v3
noncomputable def LwszThreadS_5 : Lp := ⟨5, [0, 1, 5], [1, 4], 0, 27, hwszThreadS_5, xwszThreadS_5, RwszThreadS_5⟩
noncomputable def QwszThreadS : Fx := ⟨Go.Proofs.Tryz.f21, [.ro, .ro], false, mkEnv tys_z1 [(47, SwszThread)] [], fun _ => .stop, [LwszThreadS_5]⟩
noncomputable def FwszThreadS : List S → Option Res := veil QwszThreadS.run
noncomputable def SwszThreadS : Spec := ⟨[.ro, .ro], false, FwszThreadS⟩
theorem mwszThreadS (x1 : Option Bool) (x2 : List (List C)) (x3 : Int) : FwszThreadS [.one (.sl false x1 3 x2), .one (.int x3)] = bif decide (W (x3 - (x2.length : Int)) < 0) then fr false 2 [.one (.int (-1))] else iterC (RwszThreadS_5 (fun y1 y2 => fr false 2 [.one (.int y2)]) (fun y3 => fr false 2 [.one (.int y3)])) FUEL x1 x2 (W (x3 - (x2.length : Int))) 0 := Fx.eq (by kernel_rfl)
theorem stwszThreadS_5 : LwszThreadS_5.Step QwszThreadS.E QwszThreadS.dr QwszThreadS.lp ((findLoop 5 QwszThreadS.code).getD .skip) := fun k nx v => by kernel_rfl
theorem okwszThreadS : CalleeOk Go.Proofs.Tryz.prog 21 SwszThreadS := Fx.ok (F := QwszThreadS) follows (envTy_mk tys_z1_eq) (envSpec_of (specsOk_cons okwszThread specsOk_nil)) Go.Proofs.Tryz.func21 (by kernel_rfl) (by kernel_rfl) (by
  rw [show subs QwszThreadS.code = [(findLoop 5 QwszThreadS.code).getD .skip] by kernel_rfl]
  exact ⟨stepAt_some (by kernel_rfl) stwszThreadS_5, trivial⟩) (by kernel_rfl) (by kernel_rfl) rfl
theorem FwszThreadS_at (nl : Option Bool) (l : List Thread) (n : Int) (h : bndTZ l ∧ 0 ≤ n ∧ n ≤ 1048576) : FwszThreadS [S.one (C.sl false nl 3 (l.map (encTh false))), S.one (C.int n)] = some (S.one (C.int (take0 (l.length + thsS l) n)), [S.one C.unk, S.one C.unk]) := by
  obtain ⟨⟨h1, h2⟩, h3, h4⟩ := h
  rw [mwszThreadS, List.length_map, W_eq (by omega) (by omega)]
  by_cases hn : (l.length : Int) ≤ n
  · rw [decide_eq_false (by omega), cond_false, take0_add hn]
    refine (iter_rec (h := hwszThreadS_5) l (fun i a f => f nl (l.map (encTh false)) a (i : Int)) (fun a r => fr false 2 [.one (.int (take0 (thsS r) a))]) (fun _ a => 0 ≤ a ∧ a ≤ 1048576) (by omega) ?_ ?_ (n - l.length) ⟨by omega, by omega⟩).trans ?_
    · intro nx a ha; simp [RwszThreadS_5, take0, ha.1, thsS]
    · intro nx i rest a hi ha hW hd
      have hb := h2 _ (List.getElem_mem hi)
      have hf := FwszThread_at l[i] a ⟨hb.1, hb.2, ha.1, ha.2⟩
      by_cases hc : (tS l[i] : Int) ≤ a
      · have e : ¬ a - (tS l[i] : Int) < 0 := by omega
        rw [take0_pos hc] at hf
        refine .inl ⟨a - tS l[i], by omega, by simp [RwszThreadS_5, hi, hW, hf, e], ?_⟩
        simp only [thsS, take0_add hc]
      · refine .inr ?_
        rw [take0_neg hc] at hf
        simp [RwszThreadS_5, hi, hW, hf, thsS, take0_not hc]
    · simp
  · rw [decide_eq_true (by omega), take0_not hn]
    simp
/-! wszMem: loop.example/g00712/laws.szMem -/
noncomputable def QwszMem : Fx := ⟨Go.Proofs.Tryz.f20, [.ro, .ro], false, mkEnv tys_z1 [(46, SwszIntS)] [], fun _ => .stop, []⟩
noncomputable def FwszMem : List S → Option Res := veil QwszMem.run
noncomputable def SwszMem : Spec := ⟨[.ro, .ro], false, FwszMem⟩
theorem mwszMem (x1 : List (List C)) (x2 : Int) : FwszMem [.agg [.sl false none 1 x1], .one (.int x2)] = cV false [.int .i64] (FwszIntS [.one (.sl false none 1 x1), .one (.int x2)]) fun n1 => bif decide (n1 < 0) then fr false 2 [.one (.int (-1))] else fr false 2 [.one (.int n1)] := Fx.eq (by kernel_rfl)
theorem okwszMem : CalleeOk Go.Proofs.Tryz.prog 20 SwszMem := Fx.ok (F := QwszMem) follows (envTy_mk tys_z1_eq) (envSpec_of (specsOk_cons okwszIntS specsOk_nil)) Go.Proofs.Tryz.func20 (by kernel_rfl) (by kernel_rfl) (by rw [show subs QwszMem.code = [] by kernel_rfl]; trivial) (by kernel_rfl) (by kernel_rfl) rfl
theorem FwszMem_at (l : List Int) (n : Int) (h : l.length ≤ 9223372036854775807 ∧ 0 ≤ n ∧ n ≤ 1048576) : FwszMem [S.agg [C.sl false none 1 (l.map encInt)], S.one (C.int n)] = some (S.one (C.int (take0 l.length n)), [S.one C.unk, S.one C.unk]) := by
  rw [mwszMem, FwszIntS_at _ _ _ h]
  by_cases e : (l.length : Int) ≤ n
  · have e0 : ¬ n - (l.length : Int) < 0 := by omega
    rw [take0_pos e, if_pos e]
    simp [e0]
  · rw [take0_neg e, if_neg e]
    simp
/-! wszMachine: loop.example/g00712/laws.szMachine -/
noncomputable def QwszMachine : Fx := ⟨Go.Proofs.Tryz.f6, [.ro, .ro], false, mkEnv tys_z1 [(20, SwszMem), (21, SwszThreadS)] [], fun _ => .stop, []⟩
noncomputable def FwszMachine : List S → Option Res := veil QwszMachine.run
noncomputable def SwszMachine : Spec := ⟨[.ro, .ro], false, FwszMachine⟩
theorem mwszMachine (x1 : List (List C)) (x2 : List (List C)) (x3 : Int) : FwszMachine [.agg [.sl false none 1 x1, .sl false none 3 x2], .one (.int x3)] = cV false [.int .i64] (FwszMem [.agg [.sl false none 1 x1], .one (.int x3)]) fun n1 => bif decide (n1 < 0) then fr false 2 [.one (.int (-1))] else cV false [.int .i64] (FwszThreadS [.one (.sl false none 3 x2), .one (.int n1)]) fun n2 => bif decide (n2 < 0) then fr false 2 [.one (.int (-1))] else fr false 2 [.one (.int n2)] := Fx.eq (by kernel_rfl)
theorem okwszMachine : CalleeOk Go.Proofs.Tryz.prog 6 SwszMachine := Fx.ok (F := QwszMachine) follows (envTy_mk tys_z1_eq) (envSpec_of (specsOk_cons okwszMem (specsOk_cons okwszThreadS specsOk_nil))) Go.Proofs.Tryz.func6 (by kernel_rfl) (by kernel_rfl) (by rw [show subs QwszMachine.code = [] by kernel_rfl]; trivial) (by kernel_rfl) (by kernel_rfl) rfl
theorem FwszMachine_at (m : Machine) (n : Int) (h : m.cells.length ≤ 9223372036854775807 ∧ bndTZ m.ths ∧ 0 ≤ n ∧ n ≤ 1048576) : FwszMachine [S.agg (encMa false m), S.one (C.int n)] = some (S.one (C.int (take0 (m.cells.length + (m.ths.length + thsS m.ths)) n)), [S.one C.unk, S.one C.unk]) := by
  obtain ⟨h1, h2, h3, h4⟩ := h
  rw [mwszMachine, FwszMem_at m.cells n ⟨h1, h3, h4⟩]
  by_cases e : (m.cells.length : Int) ≤ n
  · have e0 : ¬ n - (m.cells.length : Int) < 0 := by omega
    rw [take0_add e, take0_pos e]
    have hf := FwszThreadS_at none m.ths (n - m.cells.length) ⟨h2, by omega, by omega⟩
    by_cases e2 : ((m.ths.length + thsS m.ths : Nat) : Int) ≤ n - m.cells.length
    · have e3 : ¬ take0 (m.ths.length + thsS m.ths) (n - m.cells.length) < 0 := by rw [take0_pos e2]; omega
      generalize take0 (m.ths.length + thsS m.ths) (n - m.cells.length) = q at *
      simp [hf, e0, e3]
    · rw [take0_neg e2] at hf
      rw [take0_neg e2]
      simp [hf, e0]
  · rw [take0_not e, take0_neg e]
    simp
/-! wtoThread: loop.example/g00712/laws.toThread -/
noncomputable def QwtoThread : Fx := ⟨Go.Proofs.Tryz.f56, [.ro], false, mkEnv tys_z1 [(55, SwtoIntS), (83, SwtoSlotS)] [], fun _ => .stop, []⟩
noncomputable def FwtoThread : List S → Option Res := veil QwtoThread.run
noncomputable def SwtoThread : Spec := ⟨[.ro], false, FwtoThread⟩
theorem mwtoThread (x1 : Int) (x2 : List (List C)) (x3 : List (List C)) : FwtoThread [.agg [.int x1, .sl false none 1 x2, .sl false none 2 x3]] = cV false [.sl 1] (FwtoIntS [.one (.sl false none 1 x2)]) fun o1 l1 => cV false [.sl 2] (FwtoSlotS [.one (.sl false none 2 x3)]) fun o2 l2 => fr false 1 [.agg [.int x1, .sl true none 1 l1, .sl true none 2 l2]] := Fx.eq (by kernel_rfl)
theorem okwtoThread : CalleeOk Go.Proofs.Tryz.prog 56 SwtoThread := Fx.ok (F := QwtoThread) follows (envTy_mk tys_z1_eq) (envSpec_of (specsOk_cons okwtoIntS (specsOk_cons okwtoSlotS specsOk_nil))) Go.Proofs.Tryz.func56 (by kernel_rfl) (by kernel_rfl) (by rw [show subs QwtoThread.code = [] by kernel_rfl]; trivial) (by kernel_rfl) (by kernel_rfl) rfl
theorem FwtoThread_at (t : Thread) (h : t.vals.length ≤ 1048576 ∧ t.buf.length ≤ 1048576) : FwtoThread [S.agg (encTh false t)] = some (S.agg (encTh true t), [S.one C.unk]) := by
  simp [mwtoThread, FwtoIntS_at _ _ h.1, FwtoSlotS_at _ _ h.2]
/-! wtoThreadS: loop.example/g00712/laws.toThreadS -/
@[reducible] def hwtoThreadS_3 : Sh := ⟨[.one (.o (.sl false 3)), .one (.o (.al 2 0 [])), .one (.o (.i .i64))], [(true, [.o .u]), (true, [.o .u]), (true, [.o (.sl true 3)])]⟩
@[reducible] def xwtoThreadS_3 : List (Ex × Sh) := [(.exit 0, ⟨[.one (.o (.al 2 0 []))], [(true, [.o .u]), (true, [.o .u]), (true, [.o (.sl true 3)])]⟩)]
noncomputable def RwtoThreadS_3 : KC xwtoThreadS_3 (hwtoThreadS_3.K → hwtoThreadS_3.K) := fun k0 nx v1 v2 v3 v4 v5 => bif decide (v3 < (v2.length : Int)) then ix v3 v2 ((v2[Int.toNat v3]?).bind fun w1 => tRo [.int .i64, .sl 1, .sl 2] w1 fun n1 _ l1 _ l2 => cV true [.int .i64, .sl 1, .sl 2] (FwtoThread [.agg [.int n1, .sl false none 1 l1, .sl false none 2 l2]]) fun n2 o1 l3 o2 l4 => ix v3 v5 (oc (.int .i64) v5 (Int.toNat v3) 0 ((let e1 : List (List C) := md v5 (Int.toNat v3) 0 (.int n2); (e1[Int.toNat v3]?).bind fun w2 => (w2[1]?).bind fun c1 => (let e2 : List (List C) := md e1 (Int.toNat v3) 1 (.sl true none 1 l3); (e2[Int.toNat v3]?).bind fun w3 => (w3[2]?).bind fun c2 => (let e3 : List (List C) := md e2 (Int.toNat v3) 2 (.sl true none 2 l4); nx v1 v2 (W (v3 + 1)) v4 e3)))))) else k0 v4 v5
noncomputable def LwtoThreadS_3 : Lp := ⟨3, [0, 3, 4], [3], 2, 23, hwtoThreadS_3, xwtoThreadS_3, RwtoThreadS_3⟩
noncomputable def QwtoThreadS : Fx := ⟨Go.Proofs.Tryz.f27, [.ro], false, mkEnv tys_z1 [(56, SwtoThread)] [], fun _ => .stop, [LwtoThreadS_3]⟩
noncomputable def FwtoThreadS : List S → Option Res := veil QwtoThreadS.run
noncomputable def SwtoThreadS : Spec := ⟨[.ro], false, FwtoThreadS⟩
theorem mwtoThreadS (x1 : Option Bool) (x2 : List (List C)) : FwtoThreadS [.one (.sl false x1 3 x2)] = if 0 ≤ (x2.length : Int) ∧ (x2.length : Int) ≤ (x2.length : Int) ∧ (x2.length : Int) * 56 ≤ (LIM : Int) ∧ 0 < 3 then iterC (RwtoThreadS_3 (fun y1 y2 => fr false 1 [.one (.sl true y1 3 y2)])) FUEL x1 x2 0 (some false) (List.replicate (Int.toNat (x2.length : Int)) [.int 0, .sl true none 1 [], .sl true none 2 []]) else none := Fx.eq (by kernel_rfl)
theorem stwtoThreadS_3 : LwtoThreadS_3.Step QwtoThreadS.E QwtoThreadS.dr QwtoThreadS.lp ((findLoop 3 QwtoThreadS.code).getD .skip) := fun k nx v => by kernel_rfl
theorem okwtoThreadS : CalleeOk Go.Proofs.Tryz.prog 27 SwtoThreadS := Fx.ok (F := QwtoThreadS) follows (envTy_mk tys_z1_eq) (envSpec_of (specsOk_cons okwtoThread specsOk_nil)) Go.Proofs.Tryz.func27 (by kernel_rfl) (by kernel_rfl) (by
  rw [show subs QwtoThreadS.code = [(findLoop 3 QwtoThreadS.code).getD .skip] by kernel_rfl]
  exact ⟨stepAt_some (by kernel_rfl) stwtoThreadS_3, trivial⟩) (by kernel_rfl) (by kernel_rfl) rfl
theorem FwtoThreadS_at (nl : Option Bool) (l : List Thread) (h : bT l) : FwtoThreadS [S.one (C.sl false nl 3 (l.map (encTh false)))] = some (S.one (C.sl true (some false) 3 (l.map (encTh true))), [S.one C.unk]) := by
  obtain ⟨h1, h2⟩ := h
  have hz : List.replicate l.length [C.int 0, C.sl true none 1 [], C.sl true none 2 []] = (List.replicate l.length (⟨0, [], []⟩ : Thread)).map (encTh true) := by simp
  rw [mwtoThreadS, if_pos (by simp [LIM]; omega), List.length_map, Int.toNat_natCast, hz]
  have key : ∀ k0 : Option Bool → List (List C) → Option Res, iterC (RwtoThreadS_3 k0) FUEL nl (l.map (encTh false)) 0 (some false) ((List.replicate l.length (⟨0, [], []⟩ : Thread)).map (encTh true)) = k0 (some false) (l.map (encTh true)) := fun k0 => by
    refine (iter_set (h := hwtoThreadS_3) (List.replicate l.length (⟨0, [], []⟩ : Thread)) (fun i => l.getD i ⟨0, [], []⟩) (fun i a f => f nl (l.map (encTh false)) (i : Int) (some false) (a.map (encTh true))) (fun a => k0 (some false) (a.map (encTh true))) (by simp; omega) ?_ ?_).trans ?_
    · intro nx a ha
      simp [RwtoThreadS_3]
    · intro nx i a hi ha hW
      have hi' : i < l.length := by simpa [ha] using hi
      have hb := h2 _ (List.getElem_mem hi')
      have hf := FwtoThread_at l[i] ⟨hb.1, hb.2⟩
      simp [-List.map_set, RwtoThreadS_3, hf, hi', hi, hW, List.getD, List.getElem?_eq_getElem hi']
    · congr 2
      apply List.ext_getElem
      · simp
      · intro k h1 h2
        simp only [List.length_map, List.length_range, List.length_replicate] at h1
        simp [List.getD, h2]
  rw [key]
  simp
/-! wtoMem: loop.example/g00712/laws.toMem -/
noncomputable def QwtoMem : Fx := ⟨Go.Proofs.Tryz.f26, [.ro], false, mkEnv tys_z1 [(55, SwtoIntS)] [], fun _ => .stop, []⟩
noncomputable def FwtoMem : List S → Option Res := veil QwtoMem.run
noncomputable def SwtoMem : Spec := ⟨[.ro], false, FwtoMem⟩
theorem mwtoMem (x1 : List (List C)) : FwtoMem [.agg [.sl false none 1 x1]] = cV false [.sl 1] (FwtoIntS [.one (.sl false none 1 x1)]) fun o1 l1 => fr false 1 [.agg [.sl true none 1 l1]] := Fx.eq (by kernel_rfl)
theorem okwtoMem : CalleeOk Go.Proofs.Tryz.prog 26 SwtoMem := Fx.ok (F := QwtoMem) follows (envTy_mk tys_z1_eq) (envSpec_of (specsOk_cons okwtoIntS specsOk_nil)) Go.Proofs.Tryz.func26 (by kernel_rfl) (by kernel_rfl) (by rw [show subs QwtoMem.code = [] by kernel_rfl]; trivial) (by kernel_rfl) (by kernel_rfl) rfl
theorem FwtoMem_at (l : List Int) (h : l.length ≤ 1048576) : FwtoMem [S.agg [C.sl false none 1 (l.map encInt)]] = some (S.agg [C.sl true none 1 (l.map encInt)], [S.one C.unk]) := by
  simp [mwtoMem, FwtoIntS_at _ _ h]
/-! wtoMachine: loop.example/g00712/laws.toMachine -/
noncomputable def QwtoMachine : Fx := ⟨Go.Proofs.Tryz.f9, [.ro], false, mkEnv tys_z1 [(26, SwtoMem), (27, SwtoThreadS)] [], fun _ => .stop, []⟩
noncomputable def FwtoMachine : List S → Option Res := veil QwtoMachine.run
noncomputable def SwtoMachine : Spec := ⟨[.ro], false, FwtoMachine⟩
theorem mwtoMachine (x1 : List (List C)) (x2 : List (List C)) : FwtoMachine [.agg [.sl false none 1 x1, .sl false none 3 x2]] = cV true [.sl 1] (FwtoMem [.agg [.sl false none 1 x1]]) fun o1 l1 => cV false [.sl 3] (FwtoThreadS [.one (.sl false none 3 x2)]) fun o2 l2 => fr false 1 [.agg [.sl true none 1 l1, .sl true none 3 l2]] := Fx.eq (by kernel_rfl)
theorem okwtoMachine : CalleeOk Go.Proofs.Tryz.prog 9 SwtoMachine := Fx.ok (F := QwtoMachine) follows (envTy_mk tys_z1_eq) (envSpec_of (specsOk_cons okwtoMem (specsOk_cons okwtoThreadS specsOk_nil))) Go.Proofs.Tryz.func9 (by kernel_rfl) (by kernel_rfl) (by rw [show subs QwtoMachine.code = [] by kernel_rfl]; trivial) (by kernel_rfl) (by kernel_rfl) rfl
theorem FwtoMachine_at (m : Machine) (h : m.cells.length ≤ 1048576 ∧ bT m.ths) : FwtoMachine [S.agg (encMa false m)] = some (S.agg (encMa true m), [S.one C.unk]) := by
  simp [mwtoMachine, FwtoMem_at _ h.1, FwtoThreadS_at _ _ h.2]
end Go.Proofs.Gh.Gm
set_option linter.unusedVariables false
set_option linter.unusedSimpArgs false
set_option maxRecDepth 100000
set_option maxHeartbeats 2000000
namespace Go.Proofs.Gh.Gm
def tys_z2 : List (Nat × TI) := [(3, ⟨false, 8, [.int .i64], [.int 0], .scalar, false⟩),
  (4, ⟨false, 1, [.bool], [.bool false], .scalar, false⟩),
  (36, ⟨false, 24, [.sl 3], [.sl true (some true) 3 []], .slice 75, false⟩),
  (38, ⟨true, 48, [.sl 1, .sl 3], [.sl true (some true) 1 [], .sl true (some true) 3 []], .struct [(0, 1, true), (1, 1, false)], false⟩),
  (41, ⟨false, 24, [.sl 1], [.sl true (some true) 1 []], .slice 76, false⟩),
  (43, ⟨true, 32, [.int .i64, .sl 1], [.int 0, .sl true (some true) 1 []], .struct [(0, 1, false), (1, 1, false)], false⟩),
  (46, ⟨true, 16, [.int .i64, .bool], [.int 0, .bool false], .struct [(0, 1, false), (1, 1, false)], true⟩),
  (73, ⟨false, 24, [.sl 2], [.sl true (some true) 2 []], .slice 90, false⟩),
  (75, ⟨true, 56, [.int .i64, .sl 1, .sl 2], [.int 0, .sl true (some true) 1 [], .sl true (some true) 2 []], .struct [(0, 1, false), (1, 1, false), (2, 1, false)], false⟩),
  (76, ⟨false, 24, [.sl 4], [.sl true (some true) 4 []], .slice 92, false⟩)]
theorem tys_z2_eq : tys_z2.map (fun x => tiOf Go.Proofs.Tryz.prog x.1 x.2.cks) = tys_z2.map fun x => some x.2 := by kernel_rfl
theorem drainAllM_nil {m : Machine} {t : Nat} {th : Thread} (h : m.ths[t]? = some th) (hb : th.buf = []) : drainAllM m t = m := by
  obtain ⟨ht, rfl⟩ := List.getElem?_eq_some_iff.1 h
  obtain ⟨cells, ths⟩ := m
  simp only at ht hb ⊢
  have e : ({ ths[t] with buf := [] } : Thread) = ths[t] := by rw [← hb]
  simp only [drainAllM, h]
  rw [hb]
  simp only [List.foldl_nil]
  have e2 : (⟨ths[t].pc, ths[t].vals, []⟩ : Thread) = ths[t] := by rw [← hb]
  rw [e2, List.set_getElem_self]
theorem drainAllM_cons {m : Machine} {t : Nat} {th : Thread} {s : Slot} {b : List Slot} (h : m.ths[t]? = some th) (hb : th.buf = s :: b) : drainAllM (drainM m t) t = drainAllM m t ∧ (drainM m t).ths[t]? = some { th with buf := b } := by
  obtain ⟨ht, rfl⟩ := List.getElem?_eq_some_iff.1 h
  obtain ⟨cells, ths⟩ := m
  simp only at ht hb h ⊢
  have h1 : drainM ⟨cells, ths⟩ t = ⟨cells.set s.a.toNat s.v, ths.set t { ths[t] with buf := b }⟩ := by
    simp only [drainM, h, hb]
  rw [h1]
  refine ⟨?_, by simp [ht]⟩
  simp only [drainAllM, h, List.getElem?_set_self ht, List.set_set, hb, List.foldl_cons]
theorem drains {t : Nat} : ∀ (b : List Slot) {m : Machine} {th : Thread}, m.ths[t]? = some th → th.buf = b → b.foldl (fun a _ => drainM a t) m = drainAllM m t
  | [], m, th, h, hb => (drainAllM_nil h hb).symm
  | s :: b, m, th, h, hb => by
    obtain ⟨h1, h2⟩ := drainAllM_cons h hb
    rw [List.foldl_cons, ← h1]
    exact drains b h2 rfl
theorem canMv_drain {p : Prog} {m : Machine} {t : Nat} {th : Thread} (hm : isMa p m = true) (h : m.ths[t]? = some th) (hb : th.buf ≠ []) : canMv p m (t : Int) true = true := by
  obtain ⟨ht, rfl⟩ := List.getElem?_eq_some_iff.1 h
  obtain ⟨hc, _⟩ := isMa_th hm ht
  have hin : inB (t : Int) 0 ((m.ths.length : Int) - 1) = true := by simp [inB]; omega
  simp only [canMv, hin, Bool.true_and, Int.toNat_natCast, h, List.getElem?_eq_getElem hc, cond_true, decide_eq_true_eq]
  exact List.length_pos_iff.2 hb
theorem canMv_exec {p : Prog} {m : Machine} {t : Nat} {th : Thread} (h : exOk p m t) (ht : m.ths[t]? = some th) (hb : th.buf = []) : canMv p m (t : Int) false = true := by
  obtain ⟨h1, h2, i, th', h3, h4, h5⟩ := h
  rw [ht] at h4; cases h4
  obtain ⟨hlt, _⟩ := List.getElem?_eq_some_iff.1 ht
  have hin : inB (t : Int) 0 ((m.ths.length : Int) - 1) = true := by simp [inB]; omega
  obtain ⟨hc, _⟩ := isMa_th h2 hlt
  simp only [instrAt, ht, Option.bind_some, List.getElem?_eq_getElem hc] at h3
  simp only [canMv, hin, Bool.true_and, Int.toNat_natCast, ht, List.getElem?_eq_getElem hc, cond_false, h3, hb]
  cases (i.op == 3) <;> cases fenceI i <;> rfl
theorem drainAll_buf {m : Machine} {t : Nat} (ht : t < m.ths.length) : ∃ th, (drainAllM m t).ths[t]? = some th ∧ th.buf = [] := by
  refine ⟨{ m.ths[t] with buf := [] }, ?_, rfl⟩
  simp [drainAllM, ht]
/-! sl04Plain: loop.example/g00712/spec.l04Plain -/
@[reducible] def hsl04Plain_2 : Sh := ⟨[.one (.o (.i .i64)), .one (.o (.pl 0 0 [])), .one (.o (.pl 2 0 [])), .one (.o (.pl 3 0 []))], [(false, [.o (.i .i64), .o (.sl false 1)]), (false, [.o (.sl false 1), .o (.sl false 3)]), (false, [.o (.sl true 1), .o (.sl true 3)]), (false, [.o (.sl true 1), .o (.sl true 3)])]⟩
@[reducible] def xsl04Plain_2 : List (Ex × Sh) := [(.exit 0, ⟨[.one (.o (.i .i64)), .one (.o (.pl 0 0 [])), .one (.o (.pl 2 0 [])), .one (.o (.pl 3 0 []))], [(false, [.o (.i .i64), .o (.sl false 1)]), (false, [.o (.sl false 1), .o (.sl false 3)]), (false, [.o (.sl true 1), .o (.sl true 3)]), (false, [.o (.sl true 1), .o (.sl true 3)])]⟩)]
noncomputable def Rsl04Plain_2 : KC xsl04Plain_2 (hsl04Plain_2.K → hsl04Plain_2.K) := fun k0 nx v1 v2 v3 v4 v5 v6 v7 v8 v9 v10 v11 v12 v13 v14 v15 v16 => ix v1 v16 ((v16[Int.toNat v1]?).bind fun w2 => tOwn [.sl 2] (List.drop 2 w2) ((v16[Int.toNat v1]?).bind fun w3 => (w3[2]?).bind fun c1 => (C.asOwn 2 c1).bind fun q1 => bif decide ((q1.2.length : Int) > 0) then cV true [.sl 1, .sl 3] (Fsl04Do [.agg [.int v2, .sl false none 1 v4], .agg [.sl false none 1 (freezeRows v14), .sl false none 3 (freezeRows v16)], .agg [.int v1, .bool true]]) fun o3 l4 o4 l5 => nx v1 v2 v3 v4 v5 v6 v7 v8 v9 v10 v11 v12 none l4 none l5 else k0 v1 v2 v3 v4 v5 v6 v7 v8 v9 v10 v11 v12 v13 v14 v15 v16))
noncomputable def Lsl04Plain_2 : Lp := ⟨2, [2, 3, 6, 7], [2, 3, 6, 7], 4, 41, hsl04Plain_2, xsl04Plain_2, Rsl04Plain_2⟩
@[reducible] def hsl04Plain_5 : Sh := ⟨[.one (.o (.i .i64)), .one (.o (.pl 0 0 [])), .one (.o (.pl 2 0 [])), .one (.o (.pl 3 0 []))], [(false, [.o (.i .i64), .o (.sl false 1)]), (false, [.o (.sl false 1), .o (.sl false 3)]), (false, [.o (.sl true 1), .o (.sl true 3)]), (false, [.o (.sl true 1), .o (.sl true 3)]), (true, [.o .u]), (true, [.o .u])]⟩
@[reducible] def xsl04Plain_5 : List (Ex × Sh) := [(.exit 2, ⟨[.one (.o (.pl 2 0 [])), .one (.o (.pl 3 0 []))], [(false, [.o (.i .i64), .o (.sl false 1)]), (false, [.o (.sl false 1), .o (.sl false 3)]), (false, [.o (.sl true 1), .o (.sl true 3)]), (false, [.o (.sl true 1), .o (.sl true 3)]), (true, [.o .u]), (true, [.o .u])]⟩)]
noncomputable def Rsl04Plain_5 : KC xsl04Plain_5 (hsl04Plain_5.K → hsl04Plain_5.K) := fun k0 nx v1 v2 v3 v4 v5 v6 v7 v8 v9 v10 v11 v12 v13 v14 v15 v16 => ix v1 v16 ((v16[Int.toNat v1]?).bind fun w2 => tOwn [.sl 2] (List.drop 2 w2) ((v16[Int.toNat v1]?).bind fun w3 => (w3[2]?).bind fun c1 => (C.asOwn 2 c1).bind fun q1 => bif decide ((q1.2.length : Int) > 0) then cV true [.sl 1, .sl 3] (Fsl04Do [.agg [.int v2, .sl false none 1 v4], .agg [.sl false none 1 (freezeRows v14), .sl false none 3 (freezeRows v16)], .agg [.int v1, .bool true]]) fun o5 l6 o6 l7 => nx v1 v2 v3 v4 v5 v6 v7 v8 v9 v10 v11 v12 none l6 none l7 else k0 v2 v3 v4 v5 v6 v7 v8 v9 v10 v11 v12 v13 v14 v15 v16))
noncomputable def Lsl04Plain_5 : Lp := ⟨5, [2, 3, 6, 7], [6, 7], 6, 41, hsl04Plain_5, xsl04Plain_5, Rsl04Plain_5⟩
noncomputable def Qsl04Plain : Fx := ⟨Go.Proofs.Tryz.f41, [.ro, .ro, .ro], false, (mkEnv tys_z2 [(24, Ssl04Do)] []).peelS [2], fun _ => .stop, [Lsl04Plain_2, Lsl04Plain_5]⟩
noncomputable def Fsl04Plain : List S → Option Res := veil Qsl04Plain.run
noncomputable def Ssl04Plain : Spec := ⟨[.ro, .ro, .ro], false, Fsl04Plain⟩
theorem msl04Plain (x1 : Int) (x2 : List (List C)) (x3 : List (List C)) (x4 : List (List C)) (x5 : Int) : Fsl04Plain [.agg [.int x1, .sl false none 1 x2], .agg [.sl false none 1 x3, .sl false none 3 x4], .one (.int x5)] = ix x5 x4 ((x4[Int.toNat x5]?).bind fun w1 => tRo [.sl 2] (List.drop 2 w1) fun _ l1 => bif decide ((l1.length : Int) > 0) then cV true [.sl 1, .sl 3] (Fsl04Do [.agg [.int x1, .sl false none 1 x2], .agg [.sl false none 1 x3, .sl false none 3 x4], .agg [.int x5, .bool true]]) fun o1 l2 o2 l3 => iterC (Rsl04Plain_2 (fun y1 y2 y3 y4 y5 y6 y7 y8 y9 y10 y11 y12 y13 y14 y15 y16 => cV true [.sl 1, .sl 3] (Fsl04Do [.agg [.int y2, .sl false none 1 y4], .agg [.sl false none 1 (freezeRows y14), .sl false none 3 (freezeRows y16)], .agg [.int y1, .bool false]]) fun o3 l4 o4 l5 => iterC (Rsl04Plain_5 (fun y17 y18 y19 y20 y21 y22 y23 y24 y25 y26 y27 y28 y29 y30 y31 => fr false 3 [.agg [.sl true none 1 y29, .sl true none 3 y31]])) FUEL y1 y2 y3 y4 y5 y6 y7 y8 y9 y10 y11 y12 none l4 none l5)) FUEL x5 x1 none x2 none x3 none x4 (some true) [] (some true) [] none l2 none l3 else cV true [.sl 1, .sl 3] (Fsl04Do [.agg [.int x1, .sl false none 1 x2], .agg [.sl false none 1 x3, .sl false none 3 x4], .agg [.int x5, .bool false]]) fun o5 l6 o6 l7 => iterC (Rsl04Plain_5 (fun y32 y33 y34 y35 y36 y37 y38 y39 y40 y41 y42 y43 y44 y45 y46 => fr false 3 [.agg [.sl true none 1 y44, .sl true none 3 y46]])) FUEL x5 x1 none x2 none x3 none x4 (some true) [] (some true) [] none l6 none l7) := Fx.eq (by kernel_rfl)
theorem stsl04Plain_2 : Lsl04Plain_2.Step Qsl04Plain.E Qsl04Plain.dr Qsl04Plain.lp ((findLoop 2 Qsl04Plain.code).getD .skip) := fun k nx v => by kernel_rfl
theorem stsl04Plain_5 : Lsl04Plain_5.Step Qsl04Plain.E Qsl04Plain.dr Qsl04Plain.lp ((findLoop 5 Qsl04Plain.code).getD .skip) := fun k nx v => by kernel_rfl
theorem oksl04Plain : CalleeOk Go.Proofs.Tryz.prog 41 Ssl04Plain := Fx.ok (F := Qsl04Plain) follows (envTy_mk tys_z2_eq).peelS (envSpec_of (specsOk_cons oksl04Do specsOk_nil)).peelS Go.Proofs.Tryz.func41 (by kernel_rfl) (by kernel_rfl) (by
  rw [show subs Qsl04Plain.code = [(findLoop 2 Qsl04Plain.code).getD .skip, (findLoop 5 Qsl04Plain.code).getD .skip] by kernel_rfl]
  exact ⟨stepAt_some (by kernel_rfl) stsl04Plain_2, stepAt_some (by kernel_rfl) stsl04Plain_5, trivial⟩) (by kernel_rfl) (by kernel_rfl) rfl
theorem Fsl04Plain_at (p : Prog) (m : Machine) (t : Int) (h : progOk p = true ∧ isMa p m = true ∧ running p m t = true) : Fsl04Plain [S.agg (encProg false p), S.agg (encMa false m), S.one (C.int t)] = some (S.agg (encMa true (stepM p m t.toNat)), [S.one C.unk, S.one C.unk, S.one C.unk]) := by
  obtain ⟨hp, hm, hr⟩ := h
  obtain ⟨h0, d1, d2, d3, d4⟩ := step_ok hp hm hr
  obtain ⟨t, rfl⟩ := Int.eq_ofNat_of_zero_le h0
  simp only [Int.toNat_natCast] at d1 d2 d3 d4 ⊢
  obtain ⟨th0, e0, _⟩ := d1
  obtain ⟨ht, rfl⟩ := List.getElem?_eq_some_iff.1 e0
  have dr : ∀ M, isMa p M = true → ∀ th, M.ths[t]? = some th → th.buf ≠ [] → Fsl04Do [.agg (encProg false p), .agg (encMa false M), .agg [.int (t : Int), .bool true]] = some (.agg (encMa true (drainM M t)), [.one .unk, .one .unk, .one .unk]) ∧ isMa p (drainM M t) = true := fun M hM th hth hb => by
    have hc := canMv_drain hM hth hb
    have h1 := Fsl04Do_at p M (t : Int) true ⟨hp, hM, hc⟩
    have h2 := isMa_mv hp hM hc
    simp only [mvM, cond_true, Int.toNat_natCast] at h1 h2
    exact ⟨h1, h2⟩
  have L2 : ∀ k0, ∀ M, isMa p M = true → t < M.ths.length → iterC (Rsl04Plain_2 k0) FUEL (t : Int) p.cells none (p.codes.map (encCode false)) none (m.cells.map encInt) none (m.ths.map (encTh false)) (some true) [] (some true) [] none (M.cells.map encInt) none (M.ths.map (encTh true)) =
      k0 (t : Int) p.cells none (p.codes.map (encCode false)) none (m.cells.map encInt) none (m.ths.map (encTh false)) (some true) [] (some true) [] none ((drainAllM M t).cells.map encInt) none ((drainAllM M t).ths.map (encTh true)) := fun k0 M hM hl => by
    have hb3 := (isMa_bT hp hM).2.2 _ (List.getElem_mem hl)
    refine (iter_fold (h := hsl04Plain_2) (fb := Rsl04Plain_2 k0) M.ths[t].buf (fun _ (a : Machine) f => f (t : Int) p.cells none (p.codes.map (encCode false)) none (m.cells.map encInt) none (m.ths.map (encTh false)) (some true) [] (some true) [] none (a.cells.map encInt) none (a.ths.map (encTh true))) (fun a _ => drainM a t)
      (fun a => k0 (t : Int) p.cells none (p.codes.map (encCode false)) none (m.cells.map encInt) none (m.ths.map (encTh false)) (some true) [] (some true) [] none (a.cells.map encInt) none (a.ths.map (encTh true))) (fun i a => isMa p a = true ∧ ∃ th, a.ths[t]? = some th ∧ th.buf = M.ths[t].buf.drop i) (by omega) ?_ ?_ M ⟨hM, _, List.getElem?_eq_getElem hl, by simp⟩).trans ?_
    · rintro nx a ⟨ha, th, e1, e2⟩
      obtain ⟨hl2, rfl⟩ := List.getElem?_eq_some_iff.1 e1
      rw [List.drop_length] at e2
      simp [Rsl04Plain_2, hl2, e2]
    · rintro nx i a hi ⟨ha, th, e1, e2⟩ hW
      obtain ⟨hl2, rfl⟩ := List.getElem?_eq_some_iff.1 e1
      have e3 : M.ths[t].buf.drop i = M.ths[t].buf[i] :: M.ths[t].buf.drop (i + 1) := (List.getElem_cons_drop hi).symm
      obtain ⟨f1, f2⟩ := dr a ha _ e1 (by rw [e2, e3]; exact List.cons_ne_nil _ _)
      have f3 := (drainAllM_cons e1 (e2.trans e3)).2
      refine ⟨⟨f2, _, f3, rfl⟩, ?_⟩
      simp only [encMa] at f1
      have hlen : 0 < M.ths[t].buf.length - i := by omega
      simp [Rsl04Plain_2, hl2, e2, f1, hlen]
    · rw [drains _ (List.getElem?_eq_getElem hl) rfl]
  have L5 : ∀ k0, ∀ M, isMa p M = true → t < M.ths.length → iterC (Rsl04Plain_5 k0) FUEL (t : Int) p.cells none (p.codes.map (encCode false)) none (m.cells.map encInt) none (m.ths.map (encTh false)) (some true) [] (some true) [] none (M.cells.map encInt) none (M.ths.map (encTh true)) =
      k0 p.cells none (p.codes.map (encCode false)) none (m.cells.map encInt) none (m.ths.map (encTh false)) (some true) [] (some true) [] none ((drainAllM M t).cells.map encInt) none ((drainAllM M t).ths.map (encTh true)) := fun k0 M hM hl => by
    have hb3 := (isMa_bT hp hM).2.2 _ (List.getElem_mem hl)
    refine (iter_fold (h := hsl04Plain_5) (fb := Rsl04Plain_5 k0) M.ths[t].buf (fun _ (a : Machine) f => f (t : Int) p.cells none (p.codes.map (encCode false)) none (m.cells.map encInt) none (m.ths.map (encTh false)) (some true) [] (some true) [] none (a.cells.map encInt) none (a.ths.map (encTh true))) (fun a _ => drainM a t)
      (fun a => k0 p.cells none (p.codes.map (encCode false)) none (m.cells.map encInt) none (m.ths.map (encTh false)) (some true) [] (some true) [] none (a.cells.map encInt) none (a.ths.map (encTh true))) (fun i a => isMa p a = true ∧ ∃ th, a.ths[t]? = some th ∧ th.buf = M.ths[t].buf.drop i) (by omega) ?_ ?_ M ⟨hM, _, List.getElem?_eq_getElem hl, by simp⟩).trans ?_
    · rintro nx a ⟨ha, th, e1, e2⟩
      obtain ⟨hl2, rfl⟩ := List.getElem?_eq_some_iff.1 e1
      rw [List.drop_length] at e2
      simp [Rsl04Plain_5, hl2, e2]
    · rintro nx i a hi ⟨ha, th, e1, e2⟩ hW
      obtain ⟨hl2, rfl⟩ := List.getElem?_eq_some_iff.1 e1
      have e3 : M.ths[t].buf.drop i = M.ths[t].buf[i] :: M.ths[t].buf.drop (i + 1) := (List.getElem_cons_drop hi).symm
      obtain ⟨f1, f2⟩ := dr a ha _ e1 (by rw [e2, e3]; exact List.cons_ne_nil _ _)
      have f3 := (drainAllM_cons e1 (e2.trans e3)).2
      refine ⟨⟨f2, _, f3, rfl⟩, ?_⟩
      simp only [encMa] at f1
      have hlen : 0 < M.ths[t].buf.length - i := by omega
      simp [Rsl04Plain_5, hl2, e2, f1, hlen]
    · rw [drains _ (List.getElem?_eq_getElem hl) rfl]
  have hlA : t < (drainAllM m t).ths.length := by rw [len_drainAll]; exact ht
  obtain ⟨thA, eA, bA⟩ := drainAll_buf ht
  have hcE := canMv_exec d2 eA bA
  have hE := Fsl04Do_at p (drainAllM m t) (t : Int) false ⟨hp, (drAllOk_of hm ht).2, hcE⟩
  have hmE := isMa_exec d2
  have hlE : t < (execM p (drainAllM m t) t).ths.length := by
    have h2 := (isMa_iff.1 hmE).2.2.1
    have h3 := (isMa_iff.1 hm).2.2.1
    omega
  simp only [mvM, cond_false, Int.toNat_natCast] at hE
  simp only [encMa] at hE
  have hF := fun k0 => L5 k0 _ hmE hlE
  rw [msl04Plain]
  cases hb : m.ths[t].buf with
  | nil =>
    have e1 := drainAllM_nil e0 hb
    rw [e1] at hE hF
    have e2 : stepM p m t = drainAllM (execM p m t) t := by unfold stepM; rw [e1]
    simp [ht, hb, hE, hF, e2]
  | cons s b =>
    obtain ⟨f1, f2⟩ := dr m hm _ e0 (by rw [hb]; simp)
    obtain ⟨g1, g2⟩ := drainAllM_cons e0 hb
    obtain ⟨hl3, _⟩ := List.getElem?_eq_some_iff.1 g2
    have hG := fun k0 => L2 k0 _ f2 hl3
    rw [g1] at hG
    simp only [encMa] at f1
    simp [ht, hb, f1, hG, hE, hF, stepM]
/-! sStepPlain: loop.example/g00712/spec.StepPlain -/
noncomputable def QsStepPlain : Fx := ⟨Go.Proofs.Tryz.f17, [.ro, .ro, .ro], false, mkEnv tys_z2 [(23, Ssl04Copy), (39, SsMachineOk), (40, Ssl01In), (41, Ssl04Plain)] [], fun id => bif Nat.beq id 1 then .sq [0, 1, 2, 3, 4, 5, 6, 7, 8, 9, 10, 11, 12, 13, 14, 15, 16, 17, 18, 19, 20, 21, 22, 23, 24, 25, 26, 27] .stop else .stop, []⟩
noncomputable def FsStepPlain : List S → Option Res := veil QsStepPlain.run
noncomputable def SsStepPlain : Spec := ⟨[.ro, .ro, .ro], false, FsStepPlain⟩
theorem msStepPlain (x1 : Int) (x2 : List (List C)) (x3 : List (List C)) (x4 : List (List C)) (x5 : Int) : FsStepPlain [.agg [.int x1, .sl false none 1 x2], .agg [.sl false none 1 x3, .sl false none 3 x4], .one (.int x5)] = cV false [.bool] (FsMachineOk [.agg [.int x1, .sl false none 1 x2], .agg [.sl false none 1 x3, .sl false none 3 x4]]) fun b1 => bif !b1 then cV true [.sl 1, .sl 3] (Fsl04Copy [.agg [.sl false none 1 x3, .sl false none 3 x4]]) fun o1 l1 o2 l2 => fr false 3 [.agg [.sl true none 1 l1, .sl true none 3 l2], .one (.bool false)] else cV false [.bool] (Fsl01In [.one (.int x5), .one (.int 0), .one (.int (W ((x4.length : Int) - 1)))]) fun b2 => bif !b2 then cV true [.sl 1, .sl 3] (Fsl04Copy [.agg [.sl false none 1 x3, .sl false none 3 x4]]) fun o3 l3 o4 l4 => fr false 3 [.agg [.sl true none 1 l3, .sl true none 3 l4], .one (.bool false)] else ix x5 x4 ((x4[Int.toNat x5]?).bind fun w1 => tRo [.int .i64] w1 fun n1 => ix x5 x2 ((x2[Int.toNat x5]?).bind fun w2 => tRo [.sl 4] w2 fun _ l5 => bif n1 == (l5.length : Int) then cV true [.sl 1, .sl 3] (Fsl04Copy [.agg [.sl false none 1 x3, .sl false none 3 x4]]) fun o5 l6 o6 l7 => fr false 3 [.agg [.sl true none 1 l6, .sl true none 3 l7], .one (.bool false)] else cV true [.sl 1, .sl 3] (Fsl04Plain [.agg [.int x1, .sl false none 1 x2], .agg [.sl false none 1 x3, .sl false none 3 x4], .one (.int x5)]) fun o7 l8 o8 l9 => fr false 3 [.agg [.sl true none 1 l8, .sl true none 3 l9], .one (.bool true)])) := Fx.eq (by kernel_rfl)
theorem oksStepPlain : CalleeOk Go.Proofs.Tryz.prog 17 SsStepPlain := Fx.ok (F := QsStepPlain) follows (envTy_mk tys_z2_eq) (envSpec_of (specsOk_cons oksl04Copy (specsOk_cons oksMachineOk (specsOk_cons oksl01In (specsOk_cons oksl04Plain specsOk_nil))))) Go.Proofs.Tryz.func17 (by kernel_rfl) (by kernel_rfl) (by rw [show subs QsStepPlain.code = [] by kernel_rfl]; trivial) (by kernel_rfl) (by kernel_rfl) rfl
theorem FsStepPlain_at (p : Prog) (m : Machine) (t : Int) (h : bndL p.codes ∧ m.cells.length ≤ 1048576 ∧ bT m.ths) : FsStepPlain [S.agg (encProg false p), S.agg (encMa false m), S.one (C.int t)] = some (S.tup [S.agg (encMa true (bif stepP p m t then stepM p m t.toNat else m)), S.one (C.bool (stepP p m t))], [S.one C.unk, S.one C.unk, S.one C.unk]) := by
  obtain ⟨h1, h2, h3⟩ := h
  rw [msStepPlain, FsMachineOk_at p m ⟨h1, by omega, bndT_of h3⟩, Fsl04Copy_at m ⟨h2, h3⟩]
  simp only [stepP]
  cases hp : progOk p
  · simp
  · cases hm : isMa p m
    · simp
    · have hb := isMa_bT hp hm
      have hw : W ((m.ths.length : Int) - 1) = (m.ths.length : Int) - 1 := W_eq (by omega) (by omega)
      simp only [List.length_map, hw, Fsl01In_at]
      cases hi : inB t 0 ((m.ths.length : Int) - 1)
      · have hr : running p m t = false := by simp only [running, hi, Bool.false_and]
        simp [hr]
      · have hi' := hi
        simp only [inB, Bool.and_eq_true, decide_eq_true_eq] at hi'
        obtain ⟨n, rfl⟩ := Int.eq_ofNat_of_zero_le hi'.1
        have hn : n < m.ths.length := by omega
        obtain ⟨hc, hth⟩ := isMa_th hm hn
        have hpc := (thOk_iff.1 hth).1
        by_cases e : m.ths[n].pc = p.codes[n].length
        · have hr : running p m n = false := by
            simp only [running, hi, Bool.true_and, Int.toNat_natCast, List.getElem?_eq_getElem hn, List.getElem?_eq_getElem hc, e]
            simp
          simp [hr, hn, hc, e]
        · have e' : (m.ths[n].pc == (p.codes[n].length : Int)) = false := by simpa using e
          have hr : running p m n = true := by
            simp only [running, hi, Bool.true_and, Int.toNat_natCast, List.getElem?_eq_getElem hn, List.getElem?_eq_getElem hc, decide_eq_true_eq]
            omega
          simp [hr, hn, hc, e', Fsl04Plain_at p m n ⟨hp, hm, hr⟩]
/-! sDoMove: loop.example/g00712/spec.DoMove -/
noncomputable def QsDoMove : Fx := ⟨Go.Proofs.Tryz.f7, [.ro, .ro, .ro], false, mkEnv tys_z2 [(22, SsCanMove), (23, Ssl04Copy), (24, Ssl04Do)] [], fun _ => .stop, []⟩
noncomputable def FsDoMove : List S → Option Res := veil QsDoMove.run
noncomputable def SsDoMove : Spec := ⟨[.ro, .ro, .ro], false, FsDoMove⟩
theorem msDoMove (x1 : Int) (x2 : List (List C)) (x3 : List (List C)) (x4 : List (List C)) (x5 : Int) (x6 : Bool) : FsDoMove [.agg [.int x1, .sl false none 1 x2], .agg [.sl false none 1 x3, .sl false none 3 x4], .agg [.int x5, .bool x6]] = cV false [.bool] (FsCanMove [.agg [.int x1, .sl false none 1 x2], .agg [.sl false none 1 x3, .sl false none 3 x4], .agg [.int x5, .bool x6]]) fun b1 => bif !b1 then cV true [.sl 1, .sl 3] (Fsl04Copy [.agg [.sl false none 1 x3, .sl false none 3 x4]]) fun o1 l1 o2 l2 => fr false 3 [.agg [.sl true none 1 l1, .sl true none 3 l2], .one (.bool false)] else cV true [.sl 1, .sl 3] (Fsl04Do [.agg [.int x1, .sl false none 1 x2], .agg [.sl false none 1 x3, .sl false none 3 x4], .agg [.int x5, .bool x6]]) fun o3 l3 o4 l4 => fr false 3 [.agg [.sl true none 1 l3, .sl true none 3 l4], .one (.bool true)] := Fx.eq (by kernel_rfl)
theorem oksDoMove : CalleeOk Go.Proofs.Tryz.prog 7 SsDoMove := Fx.ok (F := QsDoMove) follows (envTy_mk tys_z2_eq) (envSpec_of (specsOk_cons oksCanMove (specsOk_cons oksl04Copy (specsOk_cons oksl04Do specsOk_nil)))) Go.Proofs.Tryz.func7 (by kernel_rfl) (by kernel_rfl) (by rw [show subs QsDoMove.code = [] by kernel_rfl]; trivial) (by kernel_rfl) (by kernel_rfl) rfl
theorem FsDoMove_at (p : Prog) (m : Machine) (t : Int) (dr : Bool) (h : bndL p.codes ∧ m.cells.length ≤ 1048576 ∧ bT m.ths) : FsDoMove [S.agg (encProg false p), S.agg (encMa false m), S.agg [C.int t, C.bool dr]] = some (S.tup [S.agg (encMa true (bif canP p m t dr then mvM p m t dr else m)), S.one (C.bool (canP p m t dr))], [S.one C.unk, S.one C.unk, S.one C.unk]) := by
  obtain ⟨h1, h2, h3⟩ := h
  rw [msDoMove, FsCanMove_at p m t dr ⟨h1, by omega, bndT_of h3⟩, Fsl04Copy_at m ⟨h2, h3⟩]
  cases hc : canP p m t dr
  · simp
  · have hc' := hc
    simp only [canP, Bool.and_eq_true] at hc'
    simp [Fsl04Do_at p m t dr ⟨hc'.1.1, hc'.1.2, hc'.2⟩]
end Go.Proofs.Gh.Gm
set_option linter.unusedVariables false
set_option linter.unusedSimpArgs false
set_option maxRecDepth 100000
set_option maxHeartbeats 2000000
namespace Go.Proofs.Gh.Gm
def tys_z5 : List (Nat × TI) := [(3, ⟨false, 8, [.int .i64], [.int 0], .scalar, false⟩),
  (4, ⟨false, 1, [.bool], [.bool false], .scalar, false⟩),
  (24, ⟨true, 32, [.int .i64, .sl 1], [.int 0, .sl true (some true) 1 []], .struct [(0, 1, false), (1, 1, false)], false⟩),
  (30, ⟨true, 48, [.sl 1, .sl 3], [.sl true (some true) 1 [], .sl true (some true) 3 []], .struct [(0, 1, true), (1, 1, false)], false⟩),
  (32, ⟨true, 16, [.int .i64, .bool], [.int 0, .bool false], .struct [(0, 1, false), (1, 1, false)], true⟩),
  (38, ⟨true, 48, [.sl 1, .sl 3], [.sl true (some true) 1 [], .sl true (some true) 3 []], .struct [(0, 1, true), (1, 1, false)], false⟩),
  (39, ⟨false, 0, [], [], .tuple [38, 4], false⟩),
  (43, ⟨true, 32, [.int .i64, .sl 1], [.int 0, .sl true (some true) 1 []], .struct [(0, 1, false), (1, 1, false)], false⟩),
  (46, ⟨true, 16, [.int .i64, .bool], [.int 0, .bool false], .struct [(0, 1, false), (1, 1, false)], true⟩)]
theorem tys_z5_eq : tys_z5.map (fun x => tiOf Go.Proofs.Tryz.prog x.1 x.2.cks) = tys_z5.map fun x => some x.2 := by kernel_rfl
theorem thsN_leS (l : List Thread) : thsN l ≤ l.length + 2 * thsS l := by
  induction l with
  | nil => simp [thsN, thsS]
  | cons t l ih => simp only [thsN, thN, thsS, tS, List.length_cons]; omega
theorem bT_leS {l : List Thread} {n : Nat} (h1 : l.length ≤ n) (h2 : thsS l ≤ n) (hn : n ≤ 1048576) : bT l :=
  ⟨by omega, fun t ht => by have := thsS_mem ht; unfold tS at this; omega⟩
/-- What is asked of a machine that is marked. -/
def markable (m : Machine) : Prop := m.cells.length ≤ 1048576 ∧ bT m.ths ∧ thsN m.ths ≤ 4194304
theorem markable_isMa {p : Prog} {m : Machine} (hp : progOk p = true) (h : isMa p m = true) : markable m := by
  obtain ⟨h1, h2, h3⟩ := isMa_bT hp h
  have := thsN_le h3
  exact ⟨by omega, ⟨by omega, fun t ht => by have := h3 t ht; omega⟩, by omega⟩
/-! wFnExactDoMove: loop.example/g00712/laws.FnExactDoMove -/
noncomputable def QwFnExactDoMove : Fx := ⟨Go.Proofs.Tryz.f3, [.ro, .ro, .ro], false, (mkEnv tys_z5 [(10, SwtoMove), (11, SiDoMove), (12, SweqMachine), (13, SweqProg), (14, SwmarkProg), (15, SwmarkMachine), (16, SwheldMachine), (5, SwszProg), (6, SwszMachine), (7, SsDoMove), (8, SwtoProg), (9, SwtoMachine)] [(14, [.agg [.int .i64, .sl 1]]), (15, [.agg [.sl 1, .sl 3]])]).cutS [(8, [3, 4, 5, 8, 9]), (11, [3, 4, 5, 8, 9, 10, 11, 12, 13]), (31, [8, 9, 12, 15, 17, 18])], fun id => bif Nat.beq id 8 then .sq [0, 2, 4] (.alt 1 (.alt 3 (.alt 5 (.alt 6 (.sq [7, 8, 9, 10, 11, 12] .stop) (.sq [10, 6, 7, 8, 9, 11, 12] .stop)) (.sq [10, 5, 6, 7, 8, 9, 11, 12] .stop)) (.sq [10, 3, 5, 6, 7, 8, 9, 11, 12] .stop)) (.sq [10, 1, 3, 5, 6, 7, 8, 9, 11, 12] .stop)) else bif Nat.beq id 11 then .sq [0, 1, 2] (.alt 3 (.alt 4 (.sq [5, 6, 7, 8, 9, 10] .stop) (.sq [8, 4, 5, 6, 7, 9, 10] .stop)) (.sq [8, 3, 4, 5, 6, 7, 9, 10] .stop)) else bif Nat.beq id 14 then .sq [0, 1, 2, 3, 4] .stop else bif Nat.beq id 16 then .sq [0, 1, 2, 3, 4] .stop else bif Nat.beq id 31 then .sq [0, 2, 4] (.alt 1 (.alt 3 (.alt 5 (.alt 6 (.sq [7, 8, 9, 10, 11, 12] .stop) (.sq [10, 6, 7, 8, 9, 11, 12] .stop)) (.sq [10, 5, 6, 7, 8, 9, 11, 12] .stop)) (.sq [10, 3, 5, 6, 7, 8, 9, 11, 12] .stop)) (.sq [10, 1, 3, 5, 6, 7, 8, 9, 11, 12] .stop)) else .stop, []⟩
noncomputable def FwFnExactDoMove : List S → Option Res := veil QwFnExactDoMove.run
noncomputable def SwFnExactDoMove : Spec := ⟨[.ro, .ro, .ro], false, FwFnExactDoMove⟩
@[reducible] def hwFnExactDoMove_c1 : Sh := ⟨[.one (.o (.pl 0 0 [])), .one (.o (.pl 1 0 [])), .one (.o (.pl 2 0 [])), .one (.o (.pl 3 0 [])), .one (.o .b)], [(false, [.o (.i .i64), .o (.sl false 1)]), (false, [.o (.sl false 1), .o (.sl false 3)]), (false, [.o (.i .i64), .o .b]), (false, [.o (.sl true 1), .o (.sl true 3)]), (true, [.o (.sl true 1)]), (true, [.o (.sl true 1)]), (true, [.o (.sl true 3)]), (true, [.o .u]), (true, [.o .u])]⟩
noncomputable def pwFnExactDoMove_1 : Code × Code := (cutAt 8 QwFnExactDoMove.code).getD (.skip, .skip)
noncomputable def JwFnExactDoMove_1 (xs : List S) : hwFnExactDoMove_c1.K := QwFnExactDoMove.J pwFnExactDoMove_1.2 127 [3, 4, 5, 8, 9] hwFnExactDoMove_c1 xs
@[reducible] def hwFnExactDoMove_c2 : Sh := ⟨[.one (.o (.pl 0 0 [])), .one (.o (.pl 1 0 [])), .one (.o (.pl 2 0 [])), .one (.o (.pl 3 0 [])), .one (.o .b), .one (.o (.pl 10 0 [])), .one (.o (.pl 13 0 [])), .one (.o (.pl 14 0 [])), .one (.o .b)], [(false, [.o (.i .i64), .o (.sl false 1)]), (false, [.o (.sl false 1), .o (.sl false 3)]), (false, [.o (.i .i64), .o .b]), (false, [.o (.sl true 1), .o (.sl true 3)]), (true, [.o (.sl true 1)]), (true, [.o (.sl true 1)]), (true, [.o (.sl true 3)]), (true, [.o .u]), (true, [.o .u]), (true, [.o .u]), (false, [.o (.i .i64), .o (.sl true 1)]), (true, [.o .u]), (true, [.o .u]), (false, [.o (.sl true 1), .o (.sl true 3)]), (false, [.o (.sl true 1), .o (.sl true 3)]), (true, [.o .u]), (true, [.o .u])]⟩
noncomputable def pwFnExactDoMove_2 : Code × Code := (cutAt 11 pwFnExactDoMove_1.2).getD (.skip, .skip)
noncomputable def JwFnExactDoMove_2 (xs : List S) : hwFnExactDoMove_c2.K := QwFnExactDoMove.J pwFnExactDoMove_2.2 127 [3, 4, 5, 8, 9, 10, 11, 12, 13] hwFnExactDoMove_c2 xs
@[reducible] def hwFnExactDoMove_c3 : Sh := ⟨[.one (.o (.pl 3 0 [])), .one (.o .b), .one (.o (.pl 14 0 [])), .one (.o (.i .i64)), .one (.o (.pl 20 0 [])), .one (.o .b)], [(false, [.o (.i .i64), .o (.sl false 1)]), (false, [.o (.sl false 1), .o (.sl false 3)]), (false, [.o (.i .i64), .o .b]), (false, [.o (.sl true 1), .o (.sl true 3)]), (true, [.o (.sl true 1)]), (true, [.o (.sl true 1)]), (true, [.o (.sl true 3)]), (true, [.o .u]), (true, [.o .u]), (true, [.o .u]), (false, [.o (.i .i64), .o (.sl true 1)]), (true, [.o .u]), (true, [.o .u]), (false, [.o (.sl true 1), .o (.sl true 3)]), (false, [.o (.sl true 1), .o (.sl true 3)]), (true, [.o .u]), (true, [.o .u]), (true, [.o (.sl true 1)]), (true, [.o (.sl true 1)]), (true, [.o (.sl true 3)]), (false, [.o (.sl true 1), .o (.sl true 3)]), (true, [.o (.sl true 1)]), (true, [.o (.sl true 1)]), (true, [.o (.sl true 3)]), (true, [.o .u]), (true, [.o .u])]⟩
noncomputable def pwFnExactDoMove_3 : Code × Code := (cutAt 31 pwFnExactDoMove_2.2).getD (.skip, .skip)
noncomputable def JwFnExactDoMove_3 (xs : List S) : hwFnExactDoMove_c3.K := QwFnExactDoMove.J pwFnExactDoMove_3.2 127 [8, 9, 12, 15, 17, 18] hwFnExactDoMove_c3 xs
theorem mwFnExactDoMove (x1 : Int) (x2 : List (List C)) (x3 : List (List C)) (x4 : List (List C)) (x5 : Int) (x6 : Bool) : FwFnExactDoMove [.agg [.int x1, .sl false none 1 x2], .agg [.sl false none 1 x3, .sl false none 3 x4], .agg [.int x5, .bool x6]] = cV false [.int .i64] (FwszProg [.agg [.int x1, .sl false none 1 x2], .one (.int 1048576)]) fun n1 => bif decide (n1 < 0) then fr false 3 [.one (.bool true)] else cV false [.int .i64] (FwszMachine [.agg [.sl false none 1 x3, .sl false none 3 x4], .one (.int n1)]) fun n2 => bif decide (n2 < 0) then fr false 3 [.one (.bool true)] else both (cV true [.int .i64, .sl 1] (FwtoProg [.agg [.int x1, .sl false none 1 x2]]) fun n3 o1 l1 => both (cV true [.sl 1, .sl 3] (FwtoMachine [.agg [.sl false none 1 x3, .sl false none 3 x4]]) fun o2 l2 o3 l3 => both (cV true [.int .i64, .bool] (FwtoMove [.agg [.int x5, .bool x6]]) fun n4 b1 => both (cT [(true, [.sl 1, .sl 3]), (false, [.bool])] (FsDoMove [.agg [.int n3, .sl false none 1 (freezeRows l1)], .agg [.sl false none 1 (freezeRows l2), .sl false none 3 (freezeRows l3)], .agg [.int n4, .bool b1]]) fun o4 l4 o5 l5 b2 => JwFnExactDoMove_1 [.agg [.int x1, .sl false none 1 x2], .agg [.sl false none 1 x3, .sl false none 3 x4], .agg [.int x5, .bool x6]] b2 x1 none x2 none x3 none x4 x5 x6 none l4 none l5 o1 l1 o2 l2 o3 l3) (cT [(true, [.sl 1, .sl 3]), (false, [.bool])] (FsDoMove [.agg [.int n3, .sl false none 1 (freezeRows l1)], .agg [.sl false none 1 (freezeRows l2), .sl false none 3 (freezeRows l3)], .agg [.int n4, .bool b1]]) fun o6 l6 o7 l7 b3 => JwFnExactDoMove_1 [.agg [.int x1, .sl false none 1 x2], .agg [.sl false none 1 x3, .sl false none 3 x4], .agg [.int x5, .bool x6]] b3 x1 none x2 none x3 none x4 x5 x6 none l6 none l7 o1 l1 o2 l2 o3 l3)) (cV true [.int .i64, .bool] (FwtoMove [.agg [.int x5, .bool x6]]) fun n5 b4 => cT [(true, [.sl 1, .sl 3]), (false, [.bool])] (FsDoMove [.agg [.int n3, .sl false none 1 (freezeRows l1)], .agg [.sl false none 1 (freezeRows l2), .sl false none 3 (freezeRows l3)], .agg [.int n5, .bool b4]]) fun o8 l8 o9 l9 b5 => JwFnExactDoMove_1 [.agg [.int x1, .sl false none 1 x2], .agg [.sl false none 1 x3, .sl false none 3 x4], .agg [.int x5, .bool x6]] b5 x1 none x2 none x3 none x4 x5 x6 none l8 none l9 o1 l1 o2 l2 o3 l3)) (cV true [.sl 1, .sl 3] (FwtoMachine [.agg [.sl false none 1 x3, .sl false none 3 x4]]) fun o10 l10 o11 l11 => cV true [.int .i64, .bool] (FwtoMove [.agg [.int x5, .bool x6]]) fun n6 b6 => cT [(true, [.sl 1, .sl 3]), (false, [.bool])] (FsDoMove [.agg [.int n3, .sl false none 1 (freezeRows l1)], .agg [.sl false none 1 (freezeRows l10), .sl false none 3 (freezeRows l11)], .agg [.int n6, .bool b6]]) fun o12 l12 o13 l13 b7 => JwFnExactDoMove_1 [.agg [.int x1, .sl false none 1 x2], .agg [.sl false none 1 x3, .sl false none 3 x4], .agg [.int x5, .bool x6]] b7 x1 none x2 none x3 none x4 x5 x6 none l12 none l13 o1 l1 o10 l10 o11 l11)) (cV true [.int .i64, .sl 1] (FwtoProg [.agg [.int x1, .sl false none 1 x2]]) fun n7 o14 l14 => cV true [.sl 1, .sl 3] (FwtoMachine [.agg [.sl false none 1 x3, .sl false none 3 x4]]) fun o15 l15 o16 l16 => cV true [.int .i64, .bool] (FwtoMove [.agg [.int x5, .bool x6]]) fun n8 b8 => cT [(true, [.sl 1, .sl 3]), (false, [.bool])] (FsDoMove [.agg [.int n7, .sl false none 1 (freezeRows l14)], .agg [.sl false none 1 (freezeRows l15), .sl false none 3 (freezeRows l16)], .agg [.int n8, .bool b8]]) fun o17 l17 o18 l18 b9 => JwFnExactDoMove_1 [.agg [.int x1, .sl false none 1 x2], .agg [.sl false none 1 x3, .sl false none 3 x4], .agg [.int x5, .bool x6]] b9 x1 none x2 none x3 none x4 x5 x6 none l17 none l18 o14 l14 o15 l15 o16 l16) := Fx.eq (Fx.cut0 (F := QwFnExactDoMove) (h := hwFnExactDoMove_c1) (R := fun kc => cV false [.int .i64] (FwszProg [.agg [.int x1, .sl false none 1 x2], .one (.int 1048576)]) fun n1 => bif decide (n1 < 0) then fr false 3 [.one (.bool true)] else cV false [.int .i64] (FwszMachine [.agg [.sl false none 1 x3, .sl false none 3 x4], .one (.int n1)]) fun n2 => bif decide (n2 < 0) then fr false 3 [.one (.bool true)] else both (cV true [.int .i64, .sl 1] (FwtoProg [.agg [.int x1, .sl false none 1 x2]]) fun n3 o1 l1 => both (cV true [.sl 1, .sl 3] (FwtoMachine [.agg [.sl false none 1 x3, .sl false none 3 x4]]) fun o2 l2 o3 l3 => both (cV true [.int .i64, .bool] (FwtoMove [.agg [.int x5, .bool x6]]) fun n4 b1 => both (cT [(true, [.sl 1, .sl 3]), (false, [.bool])] (FsDoMove [.agg [.int n3, .sl false none 1 (freezeRows l1)], .agg [.sl false none 1 (freezeRows l2), .sl false none 3 (freezeRows l3)], .agg [.int n4, .bool b1]]) fun o4 l4 o5 l5 b2 => kc b2 x1 none x2 none x3 none x4 x5 x6 none l4 none l5 o1 l1 o2 l2 o3 l3) (cT [(true, [.sl 1, .sl 3]), (false, [.bool])] (FsDoMove [.agg [.int n3, .sl false none 1 (freezeRows l1)], .agg [.sl false none 1 (freezeRows l2), .sl false none 3 (freezeRows l3)], .agg [.int n4, .bool b1]]) fun o6 l6 o7 l7 b3 => kc b3 x1 none x2 none x3 none x4 x5 x6 none l6 none l7 o1 l1 o2 l2 o3 l3)) (cV true [.int .i64, .bool] (FwtoMove [.agg [.int x5, .bool x6]]) fun n5 b4 => cT [(true, [.sl 1, .sl 3]), (false, [.bool])] (FsDoMove [.agg [.int n3, .sl false none 1 (freezeRows l1)], .agg [.sl false none 1 (freezeRows l2), .sl false none 3 (freezeRows l3)], .agg [.int n5, .bool b4]]) fun o8 l8 o9 l9 b5 => kc b5 x1 none x2 none x3 none x4 x5 x6 none l8 none l9 o1 l1 o2 l2 o3 l3)) (cV true [.sl 1, .sl 3] (FwtoMachine [.agg [.sl false none 1 x3, .sl false none 3 x4]]) fun o10 l10 o11 l11 => cV true [.int .i64, .bool] (FwtoMove [.agg [.int x5, .bool x6]]) fun n6 b6 => cT [(true, [.sl 1, .sl 3]), (false, [.bool])] (FsDoMove [.agg [.int n3, .sl false none 1 (freezeRows l1)], .agg [.sl false none 1 (freezeRows l10), .sl false none 3 (freezeRows l11)], .agg [.int n6, .bool b6]]) fun o12 l12 o13 l13 b7 => kc b7 x1 none x2 none x3 none x4 x5 x6 none l12 none l13 o1 l1 o10 l10 o11 l11)) (cV true [.int .i64, .sl 1] (FwtoProg [.agg [.int x1, .sl false none 1 x2]]) fun n7 o14 l14 => cV true [.sl 1, .sl 3] (FwtoMachine [.agg [.sl false none 1 x3, .sl false none 3 x4]]) fun o15 l15 o16 l16 => cV true [.int .i64, .bool] (FwtoMove [.agg [.int x5, .bool x6]]) fun n8 b8 => cT [(true, [.sl 1, .sl 3]), (false, [.bool])] (FsDoMove [.agg [.int n7, .sl false none 1 (freezeRows l14)], .agg [.sl false none 1 (freezeRows l15), .sl false none 3 (freezeRows l16)], .agg [.int n8, .bool b8]]) fun o17 l17 o18 l18 b9 => kc b9 x1 none x2 none x3 none x4 x5 x6 none l17 none l18 o14 l14 o15 l15 o16 l16)) (p := pwFnExactDoMove_1) (lv := [3, 4, 5, 8, 9]) (N := 127) (id := 8) (by kernel_rfl) (fun G => by kernel_rfl))
theorem mwFnExactDoMove_1 (x1 : Int) (x2 : List (List C)) (x3 : List (List C)) (x4 : List (List C)) (x5 : Int) (x6 : Bool) (u1 : Bool) (u2 : Int) (u3 : Option Bool) (u4 : List (List C)) (u5 : Option Bool) (u6 : List (List C)) (u7 : Option Bool) (u8 : List (List C)) (u9 : Int) (u10 : Bool) (u11 : Option Bool) (u12 : List (List C)) (u13 : Option Bool) (u14 : List (List C)) (u15 : Option Bool) (u16 : List (List C)) (u17 : Option Bool) (u18 : List (List C)) (u19 : Option Bool) (u20 : List (List C)) : JwFnExactDoMove_1 [.agg [.int x1, .sl false none 1 x2], .agg [.sl false none 1 x3, .sl false none 3 x4], .agg [.int x5, .bool x6]] u1 u2 u3 u4 u5 u6 u7 u8 u9 u10 u11 u12 u13 u14 u15 u16 u17 u18 u19 u20 = cV true [.int .i64, .sl 1] (FwtoProg [.agg [.int u2, .sl false none 1 u4]]) fun n9 o19 l19 => cV true [.sl 1, .sl 3] (FwtoMachine [.agg [.sl false none 1 u6, .sl false none 3 u8]]) fun o20 l20 o21 l21 => both (cV true [.int .i64, .bool] (FwtoMove [.agg [.int u9, .bool u10]]) fun n10 b10 => both (cT [(true, [.sl 1, .sl 3]), (false, [.bool])] (FiDoMove [.agg [.int n9, .sl false none 1 (freezeRows l19)], .agg [.sl false none 1 (freezeRows l20), .sl false none 3 (freezeRows l21)], .agg [.int n10, .bool b10]]) fun o22 l22 o23 l23 b11 => JwFnExactDoMove_2 [.agg [.int x1, .sl false none 1 x2], .agg [.sl false none 1 x3, .sl false none 3 x4], .agg [.int x5, .bool x6]] u1 b11 u2 u3 u4 u5 u6 u7 u8 u9 u10 u11 u12 u13 u14 u15 u16 u17 u18 u19 u20 n9 none l19 none l20 none l21 none l22 none l23) (cT [(true, [.sl 1, .sl 3]), (false, [.bool])] (FiDoMove [.agg [.int n9, .sl false none 1 (freezeRows l19)], .agg [.sl false none 1 (freezeRows l20), .sl false none 3 (freezeRows l21)], .agg [.int n10, .bool b10]]) fun o24 l24 o25 l25 b12 => JwFnExactDoMove_2 [.agg [.int x1, .sl false none 1 x2], .agg [.sl false none 1 x3, .sl false none 3 x4], .agg [.int x5, .bool x6]] u1 b12 u2 u3 u4 u5 u6 u7 u8 u9 u10 u11 u12 u13 u14 u15 u16 u17 u18 u19 u20 n9 none l19 none l20 none l21 none l24 none l25)) (cV true [.int .i64, .bool] (FwtoMove [.agg [.int u9, .bool u10]]) fun n11 b13 => cT [(true, [.sl 1, .sl 3]), (false, [.bool])] (FiDoMove [.agg [.int n9, .sl false none 1 (freezeRows l19)], .agg [.sl false none 1 (freezeRows l20), .sl false none 3 (freezeRows l21)], .agg [.int n11, .bool b13]]) fun o26 l26 o27 l27 b14 => JwFnExactDoMove_2 [.agg [.int x1, .sl false none 1 x2], .agg [.sl false none 1 x3, .sl false none 3 x4], .agg [.int x5, .bool x6]] u1 b14 u2 u3 u4 u5 u6 u7 u8 u9 u10 u11 u12 u13 u14 u15 u16 u17 u18 u19 u20 n9 none l19 none l20 none l21 none l26 none l27) := Fx.cutJ (F := QwFnExactDoMove) (xs := [.agg [.int x1, .sl false none 1 x2], .agg [.sl false none 1 x3, .sl false none 3 x4], .agg [.int x5, .bool x6]]) (c := pwFnExactDoMove_1.2) (σ := (curS hwFnExactDoMove_c1.ss fun a => curB hwFnExactDoMove_c1.bs fun b => headOf 127 [3, 4, 5, 8, 9] (hwFnExactDoMove_c1.enc (a, b))) u1 u2 u3 u4 u5 u6 u7 u8 u9 u10 u11 u12 u13 u14 u15 u16 u17 u18 u19 u20) (h := hwFnExactDoMove_c2) (R := fun kc => cV true [.int .i64, .sl 1] (FwtoProg [.agg [.int u2, .sl false none 1 u4]]) fun n9 o19 l19 => cV true [.sl 1, .sl 3] (FwtoMachine [.agg [.sl false none 1 u6, .sl false none 3 u8]]) fun o20 l20 o21 l21 => both (cV true [.int .i64, .bool] (FwtoMove [.agg [.int u9, .bool u10]]) fun n10 b10 => both (cT [(true, [.sl 1, .sl 3]), (false, [.bool])] (FiDoMove [.agg [.int n9, .sl false none 1 (freezeRows l19)], .agg [.sl false none 1 (freezeRows l20), .sl false none 3 (freezeRows l21)], .agg [.int n10, .bool b10]]) fun o22 l22 o23 l23 b11 => kc u1 b11 u2 u3 u4 u5 u6 u7 u8 u9 u10 u11 u12 u13 u14 u15 u16 u17 u18 u19 u20 n9 none l19 none l20 none l21 none l22 none l23) (cT [(true, [.sl 1, .sl 3]), (false, [.bool])] (FiDoMove [.agg [.int n9, .sl false none 1 (freezeRows l19)], .agg [.sl false none 1 (freezeRows l20), .sl false none 3 (freezeRows l21)], .agg [.int n10, .bool b10]]) fun o24 l24 o25 l25 b12 => kc u1 b12 u2 u3 u4 u5 u6 u7 u8 u9 u10 u11 u12 u13 u14 u15 u16 u17 u18 u19 u20 n9 none l19 none l20 none l21 none l24 none l25)) (cV true [.int .i64, .bool] (FwtoMove [.agg [.int u9, .bool u10]]) fun n11 b13 => cT [(true, [.sl 1, .sl 3]), (false, [.bool])] (FiDoMove [.agg [.int n9, .sl false none 1 (freezeRows l19)], .agg [.sl false none 1 (freezeRows l20), .sl false none 3 (freezeRows l21)], .agg [.int n11, .bool b13]]) fun o26 l26 o27 l27 b14 => kc u1 b14 u2 u3 u4 u5 u6 u7 u8 u9 u10 u11 u12 u13 u14 u15 u16 u17 u18 u19 u20 n9 none l19 none l20 none l21 none l26 none l27)) (p := pwFnExactDoMove_2) (lv := [3, 4, 5, 8, 9, 10, 11, 12, 13]) (N := 127) (id := 11) (by kernel_rfl) (fun G => by kernel_rfl)
theorem mwFnExactDoMove_2 (x1 : Int) (x2 : List (List C)) (x3 : List (List C)) (x4 : List (List C)) (x5 : Int) (x6 : Bool) (u1 : Bool) (u2 : Bool) (u3 : Int) (u4 : Option Bool) (u5 : List (List C)) (u6 : Option Bool) (u7 : List (List C)) (u8 : Option Bool) (u9 : List (List C)) (u10 : Int) (u11 : Bool) (u12 : Option Bool) (u13 : List (List C)) (u14 : Option Bool) (u15 : List (List C)) (u16 : Option Bool) (u17 : List (List C)) (u18 : Option Bool) (u19 : List (List C)) (u20 : Option Bool) (u21 : List (List C)) (u22 : Int) (u23 : Option Bool) (u24 : List (List C)) (u25 : Option Bool) (u26 : List (List C)) (u27 : Option Bool) (u28 : List (List C)) (u29 : Option Bool) (u30 : List (List C)) (u31 : Option Bool) (u32 : List (List C)) : JwFnExactDoMove_2 [.agg [.int x1, .sl false none 1 x2], .agg [.sl false none 1 x3, .sl false none 3 x4], .agg [.int x5, .bool x6]] u1 u2 u3 u4 u5 u6 u7 u8 u9 u10 u11 u12 u13 u14 u15 u16 u17 u18 u19 u20 u21 u22 u23 u24 u25 u26 u27 u28 u29 u30 u31 u32 = cV false [.bool] (FweqMachine [.agg [.sl false none 1 (freezeRows u30), .sl false none 3 (freezeRows u32)], .agg [.sl false none 1 (freezeRows u13), .sl false none 3 (freezeRows u15)]]) fun b15 => bif !b15 then fr false 3 [.one (.bool false)] else bif !(u2 == u1) then fr false 3 [.one (.bool false)] else cV true [.int .i64, .sl 1] (FwtoProg [.agg [.int u3, .sl false none 1 u5]]) fun n12 o28 l28 => cV false [.bool] (FweqProg [.agg [.int u22, .sl false none 1 (freezeRows u24)], .agg [.int n12, .sl false none 1 (freezeRows l28)]]) fun b16 => bif !b16 then fr false 3 [.one (.bool false)] else cV true [.sl 1, .sl 3] (FwtoMachine [.agg [.sl false none 1 u7, .sl false none 3 u9]]) fun o29 l29 o30 l30 => cV false [.bool] (FweqMachine [.agg [.sl false none 1 (freezeRows u26), .sl false none 3 (freezeRows u28)], .agg [.sl false none 1 (freezeRows l29), .sl false none 3 (freezeRows l30)]]) fun b17 => bif !b17 then fr false 3 [.one (.bool false)] else cOV [.agg [.int .i64, .sl 1]] false [.int .i64] (FwmarkProg [.agg [.int u22, .sl true u23 1 u24], .one (.int 1)]) fun n13 o31 l31 n14 => cOV [.agg [.sl 1, .sl 3]] false [.int .i64] (FwmarkMachine [.agg [.sl true u25 1 u26, .sl true u27 3 u28], .one (.int n14)]) fun o32 l32 o33 l33 n15 => bif decide (n15 < 0) then fr false 3 [.one (.bool false)] else cV false [.bool] (FweqMachine [.agg [.sl false none 1 (freezeRows u30), .sl false none 3 (freezeRows u32)], .agg [.sl false none 1 (freezeRows u13), .sl false none 3 (freezeRows u15)]]) fun b18 => bif !b18 then fr false 3 [.one (.bool false)] else bif !(u2 == u1) then fr false 3 [.one (.bool false)] else cOV [.agg [.sl 1, .sl 3]] false [.int .i64] (FwmarkMachine [.agg [.sl true u29 1 u30, .sl true u31 3 u32], .one (.int 1)]) fun o34 l34 o35 l35 n16 => cV false [.int .i64] (FwheldMachine [.agg [.sl false none 1 (freezeRows l34), .sl false none 3 (freezeRows l35)], .one (.int 1)]) fun n17 => bif decide (n17 < 0) then fr false 3 [.one (.bool false)] else bif n17 != n16 then fr false 3 [.one (.bool false)] else both (cV true [.int .i64, .sl 1] (FwtoProg [.agg [.int u3, .sl false none 1 u5]]) fun n18 o36 l36 => both (cV true [.sl 1, .sl 3] (FwtoMachine [.agg [.sl false none 1 u7, .sl false none 3 u9]]) fun o37 l37 o38 l38 => both (cV true [.int .i64, .bool] (FwtoMove [.agg [.int u10, .bool u11]]) fun n19 b19 => both (cT [(true, [.sl 1, .sl 3]), (false, [.bool])] (FiDoMove [.agg [.int n18, .sl false none 1 (freezeRows l36)], .agg [.sl false none 1 (freezeRows l37), .sl false none 3 (freezeRows l38)], .agg [.int n19, .bool b19]]) fun o39 l39 o40 l40 b20 => JwFnExactDoMove_3 [.agg [.int x1, .sl false none 1 x2], .agg [.sl false none 1 x3, .sl false none 3 x4], .agg [.int x5, .bool x6]] u1 n16 b20 u3 u4 u5 u6 u7 u8 u9 u10 u11 u12 u13 u14 u15 u16 u17 u18 u19 u20 u21 u22 o31 l31 o32 l32 o33 l33 o34 l34 o35 l35 o28 l28 o29 l29 o30 l30 none l39 none l40 o36 l36 o37 l37 o38 l38) (cT [(true, [.sl 1, .sl 3]), (false, [.bool])] (FiDoMove [.agg [.int n18, .sl false none 1 (freezeRows l36)], .agg [.sl false none 1 (freezeRows l37), .sl false none 3 (freezeRows l38)], .agg [.int n19, .bool b19]]) fun o41 l41 o42 l42 b21 => JwFnExactDoMove_3 [.agg [.int x1, .sl false none 1 x2], .agg [.sl false none 1 x3, .sl false none 3 x4], .agg [.int x5, .bool x6]] u1 n16 b21 u3 u4 u5 u6 u7 u8 u9 u10 u11 u12 u13 u14 u15 u16 u17 u18 u19 u20 u21 u22 o31 l31 o32 l32 o33 l33 o34 l34 o35 l35 o28 l28 o29 l29 o30 l30 none l41 none l42 o36 l36 o37 l37 o38 l38)) (cV true [.int .i64, .bool] (FwtoMove [.agg [.int u10, .bool u11]]) fun n20 b22 => cT [(true, [.sl 1, .sl 3]), (false, [.bool])] (FiDoMove [.agg [.int n18, .sl false none 1 (freezeRows l36)], .agg [.sl false none 1 (freezeRows l37), .sl false none 3 (freezeRows l38)], .agg [.int n20, .bool b22]]) fun o43 l43 o44 l44 b23 => JwFnExactDoMove_3 [.agg [.int x1, .sl false none 1 x2], .agg [.sl false none 1 x3, .sl false none 3 x4], .agg [.int x5, .bool x6]] u1 n16 b23 u3 u4 u5 u6 u7 u8 u9 u10 u11 u12 u13 u14 u15 u16 u17 u18 u19 u20 u21 u22 o31 l31 o32 l32 o33 l33 o34 l34 o35 l35 o28 l28 o29 l29 o30 l30 none l43 none l44 o36 l36 o37 l37 o38 l38)) (cV true [.sl 1, .sl 3] (FwtoMachine [.agg [.sl false none 1 u7, .sl false none 3 u9]]) fun o45 l45 o46 l46 => cV true [.int .i64, .bool] (FwtoMove [.agg [.int u10, .bool u11]]) fun n21 b24 => cT [(true, [.sl 1, .sl 3]), (false, [.bool])] (FiDoMove [.agg [.int n18, .sl false none 1 (freezeRows l36)], .agg [.sl false none 1 (freezeRows l45), .sl false none 3 (freezeRows l46)], .agg [.int n21, .bool b24]]) fun o47 l47 o48 l48 b25 => JwFnExactDoMove_3 [.agg [.int x1, .sl false none 1 x2], .agg [.sl false none 1 x3, .sl false none 3 x4], .agg [.int x5, .bool x6]] u1 n16 b25 u3 u4 u5 u6 u7 u8 u9 u10 u11 u12 u13 u14 u15 u16 u17 u18 u19 u20 u21 u22 o31 l31 o32 l32 o33 l33 o34 l34 o35 l35 o28 l28 o29 l29 o30 l30 none l47 none l48 o36 l36 o45 l45 o46 l46)) (cV true [.int .i64, .sl 1] (FwtoProg [.agg [.int u3, .sl false none 1 u5]]) fun n22 o49 l49 => cV true [.sl 1, .sl 3] (FwtoMachine [.agg [.sl false none 1 u7, .sl false none 3 u9]]) fun o50 l50 o51 l51 => cV true [.int .i64, .bool] (FwtoMove [.agg [.int u10, .bool u11]]) fun n23 b26 => cT [(true, [.sl 1, .sl 3]), (false, [.bool])] (FiDoMove [.agg [.int n22, .sl false none 1 (freezeRows l49)], .agg [.sl false none 1 (freezeRows l50), .sl false none 3 (freezeRows l51)], .agg [.int n23, .bool b26]]) fun o52 l52 o53 l53 b27 => JwFnExactDoMove_3 [.agg [.int x1, .sl false none 1 x2], .agg [.sl false none 1 x3, .sl false none 3 x4], .agg [.int x5, .bool x6]] u1 n16 b27 u3 u4 u5 u6 u7 u8 u9 u10 u11 u12 u13 u14 u15 u16 u17 u18 u19 u20 u21 u22 o31 l31 o32 l32 o33 l33 o34 l34 o35 l35 o28 l28 o29 l29 o30 l30 none l52 none l53 o49 l49 o50 l50 o51 l51) := Fx.cutJ (F := QwFnExactDoMove) (xs := [.agg [.int x1, .sl false none 1 x2], .agg [.sl false none 1 x3, .sl false none 3 x4], .agg [.int x5, .bool x6]]) (c := pwFnExactDoMove_2.2) (σ := (curS hwFnExactDoMove_c2.ss fun a => curB hwFnExactDoMove_c2.bs fun b => headOf 127 [3, 4, 5, 8, 9, 10, 11, 12, 13] (hwFnExactDoMove_c2.enc (a, b))) u1 u2 u3 u4 u5 u6 u7 u8 u9 u10 u11 u12 u13 u14 u15 u16 u17 u18 u19 u20 u21 u22 u23 u24 u25 u26 u27 u28 u29 u30 u31 u32) (h := hwFnExactDoMove_c3) (R := fun kc => cV false [.bool] (FweqMachine [.agg [.sl false none 1 (freezeRows u30), .sl false none 3 (freezeRows u32)], .agg [.sl false none 1 (freezeRows u13), .sl false none 3 (freezeRows u15)]]) fun b15 => bif !b15 then fr false 3 [.one (.bool false)] else bif !(u2 == u1) then fr false 3 [.one (.bool false)] else cV true [.int .i64, .sl 1] (FwtoProg [.agg [.int u3, .sl false none 1 u5]]) fun n12 o28 l28 => cV false [.bool] (FweqProg [.agg [.int u22, .sl false none 1 (freezeRows u24)], .agg [.int n12, .sl false none 1 (freezeRows l28)]]) fun b16 => bif !b16 then fr false 3 [.one (.bool false)] else cV true [.sl 1, .sl 3] (FwtoMachine [.agg [.sl false none 1 u7, .sl false none 3 u9]]) fun o29 l29 o30 l30 => cV false [.bool] (FweqMachine [.agg [.sl false none 1 (freezeRows u26), .sl false none 3 (freezeRows u28)], .agg [.sl false none 1 (freezeRows l29), .sl false none 3 (freezeRows l30)]]) fun b17 => bif !b17 then fr false 3 [.one (.bool false)] else cOV [.agg [.int .i64, .sl 1]] false [.int .i64] (FwmarkProg [.agg [.int u22, .sl true u23 1 u24], .one (.int 1)]) fun n13 o31 l31 n14 => cOV [.agg [.sl 1, .sl 3]] false [.int .i64] (FwmarkMachine [.agg [.sl true u25 1 u26, .sl true u27 3 u28], .one (.int n14)]) fun o32 l32 o33 l33 n15 => bif decide (n15 < 0) then fr false 3 [.one (.bool false)] else cV false [.bool] (FweqMachine [.agg [.sl false none 1 (freezeRows u30), .sl false none 3 (freezeRows u32)], .agg [.sl false none 1 (freezeRows u13), .sl false none 3 (freezeRows u15)]]) fun b18 => bif !b18 then fr false 3 [.one (.bool false)] else bif !(u2 == u1) then fr false 3 [.one (.bool false)] else cOV [.agg [.sl 1, .sl 3]] false [.int .i64] (FwmarkMachine [.agg [.sl true u29 1 u30, .sl true u31 3 u32], .one (.int 1)]) fun o34 l34 o35 l35 n16 => cV false [.int .i64] (FwheldMachine [.agg [.sl false none 1 (freezeRows l34), .sl false none 3 (freezeRows l35)], .one (.int 1)]) fun n17 => bif decide (n17 < 0) then fr false 3 [.one (.bool false)] else bif n17 != n16 then fr false 3 [.one (.bool false)] else both (cV true [.int .i64, .sl 1] (FwtoProg [.agg [.int u3, .sl false none 1 u5]]) fun n18 o36 l36 => both (cV true [.sl 1, .sl 3] (FwtoMachine [.agg [.sl false none 1 u7, .sl false none 3 u9]]) fun o37 l37 o38 l38 => both (cV true [.int .i64, .bool] (FwtoMove [.agg [.int u10, .bool u11]]) fun n19 b19 => both (cT [(true, [.sl 1, .sl 3]), (false, [.bool])] (FiDoMove [.agg [.int n18, .sl false none 1 (freezeRows l36)], .agg [.sl false none 1 (freezeRows l37), .sl false none 3 (freezeRows l38)], .agg [.int n19, .bool b19]]) fun o39 l39 o40 l40 b20 => kc u1 n16 b20 u3 u4 u5 u6 u7 u8 u9 u10 u11 u12 u13 u14 u15 u16 u17 u18 u19 u20 u21 u22 o31 l31 o32 l32 o33 l33 o34 l34 o35 l35 o28 l28 o29 l29 o30 l30 none l39 none l40 o36 l36 o37 l37 o38 l38) (cT [(true, [.sl 1, .sl 3]), (false, [.bool])] (FiDoMove [.agg [.int n18, .sl false none 1 (freezeRows l36)], .agg [.sl false none 1 (freezeRows l37), .sl false none 3 (freezeRows l38)], .agg [.int n19, .bool b19]]) fun o41 l41 o42 l42 b21 => kc u1 n16 b21 u3 u4 u5 u6 u7 u8 u9 u10 u11 u12 u13 u14 u15 u16 u17 u18 u19 u20 u21 u22 o31 l31 o32 l32 o33 l33 o34 l34 o35 l35 o28 l28 o29 l29 o30 l30 none l41 none l42 o36 l36 o37 l37 o38 l38)) (cV true [.int .i64, .bool] (FwtoMove [.agg [.int u10, .bool u11]]) fun n20 b22 => cT [(true, [.sl 1, .sl 3]), (false, [.bool])] (FiDoMove [.agg [.int n18, .sl false none 1 (freezeRows l36)], .agg [.sl false none 1 (freezeRows l37), .sl false none 3 (freezeRows l38)], .agg [.int n20, .bool b22]]) fun o43 l43 o44 l44 b23 => kc u1 n16 b23 u3 u4 u5 u6 u7 u8 u9 u10 u11 u12 u13 u14 u15 u16 u17 u18 u19 u20 u21 u22 o31 l31 o32 l32 o33 l33 o34 l34 o35 l35 o28 l28 o29 l29 o30 l30 none l43 none l44 o36 l36 o37 l37 o38 l38)) (cV true [.sl 1, .sl 3] (FwtoMachine [.agg [.sl false none 1 u7, .sl false none 3 u9]]) fun o45 l45 o46 l46 => cV true [.int .i64, .bool] (FwtoMove [.agg [.int u10, .bool u11]]) fun n21 b24 => cT [(true, [.sl 1, .sl 3]), (false, [.bool])] (FiDoMove [.agg [.int n18, .sl false none 1 (freezeRows l36)], .agg [.sl false none 1 (freezeRows l45), .sl false none 3 (freezeRows l46)], .agg [.int n21, .bool b24]]) fun o47 l47 o48 l48 b25 => kc u1 n16 b25 u3 u4 u5 u6 u7 u8 u9 u10 u11 u12 u13 u14 u15 u16 u17 u18 u19 u20 u21 u22 o31 l31 o32 l32 o33 l33 o34 l34 o35 l35 o28 l28 o29 l29 o30 l30 none l47 none l48 o36 l36 o45 l45 o46 l46)) (cV true [.int .i64, .sl 1] (FwtoProg [.agg [.int u3, .sl false none 1 u5]]) fun n22 o49 l49 => cV true [.sl 1, .sl 3] (FwtoMachine [.agg [.sl false none 1 u7, .sl false none 3 u9]]) fun o50 l50 o51 l51 => cV true [.int .i64, .bool] (FwtoMove [.agg [.int u10, .bool u11]]) fun n23 b26 => cT [(true, [.sl 1, .sl 3]), (false, [.bool])] (FiDoMove [.agg [.int n22, .sl false none 1 (freezeRows l49)], .agg [.sl false none 1 (freezeRows l50), .sl false none 3 (freezeRows l51)], .agg [.int n23, .bool b26]]) fun o52 l52 o53 l53 b27 => kc u1 n16 b27 u3 u4 u5 u6 u7 u8 u9 u10 u11 u12 u13 u14 u15 u16 u17 u18 u19 u20 u21 u22 o31 l31 o32 l32 o33 l33 o34 l34 o35 l35 o28 l28 o29 l29 o30 l30 none l52 none l53 o49 l49 o50 l50 o51 l51)) (p := pwFnExactDoMove_3) (lv := [8, 9, 12, 15, 17, 18]) (N := 127) (id := 31) (by kernel_rfl) (fun G => by kernel_rfl)
theorem mwFnExactDoMove_3 (x1 : Int) (x2 : List (List C)) (x3 : List (List C)) (x4 : List (List C)) (x5 : Int) (x6 : Bool) (u1 : Bool) (u2 : Int) (u3 : Bool) (u4 : Int) (u5 : Option Bool) (u6 : List (List C)) (u7 : Option Bool) (u8 : List (List C)) (u9 : Option Bool) (u10 : List (List C)) (u11 : Int) (u12 : Bool) (u13 : Option Bool) (u14 : List (List C)) (u15 : Option Bool) (u16 : List (List C)) (u17 : Option Bool) (u18 : List (List C)) (u19 : Option Bool) (u20 : List (List C)) (u21 : Option Bool) (u22 : List (List C)) (u23 : Int) (u24 : Option Bool) (u25 : List (List C)) (u26 : Option Bool) (u27 : List (List C)) (u28 : Option Bool) (u29 : List (List C)) (u30 : Option Bool) (u31 : List (List C)) (u32 : Option Bool) (u33 : List (List C)) (u34 : Option Bool) (u35 : List (List C)) (u36 : Option Bool) (u37 : List (List C)) (u38 : Option Bool) (u39 : List (List C)) (u40 : Option Bool) (u41 : List (List C)) (u42 : Option Bool) (u43 : List (List C)) (u44 : Option Bool) (u45 : List (List C)) (u46 : Option Bool) (u47 : List (List C)) (u48 : Option Bool) (u49 : List (List C)) : JwFnExactDoMove_3 [.agg [.int x1, .sl false none 1 x2], .agg [.sl false none 1 x3, .sl false none 3 x4], .agg [.int x5, .bool x6]] u1 u2 u3 u4 u5 u6 u7 u8 u9 u10 u11 u12 u13 u14 u15 u16 u17 u18 u19 u20 u21 u22 u23 u24 u25 u26 u27 u28 u29 u30 u31 u32 u33 u34 u35 u36 u37 u38 u39 u40 u41 u42 u43 u44 u45 u46 u47 u48 u49 = cV false [.bool] (FweqMachine [.agg [.sl false none 1 (freezeRows u41), .sl false none 3 (freezeRows u43)], .agg [.sl false none 1 (freezeRows u14), .sl false none 3 (freezeRows u16)]]) fun b28 => bif !b28 then fr false 3 [.one (.bool false)] else bif !(u3 == u1) then fr false 3 [.one (.bool false)] else cV false [.int .i64] (FwheldMachine [.agg [.sl false none 1 (freezeRows u31), .sl false none 3 (freezeRows u33)], .one (.int 1)]) fun n24 => bif decide (n24 < 0) then fr false 3 [.one (.bool false)] else bif n24 != u2 then fr false 3 [.one (.bool false)] else fr false 3 [.one (.bool true)] := by kernel_rfl
theorem okwFnExactDoMove : CalleeOk Go.Proofs.Tryz.prog 3 SwFnExactDoMove := Fx.ok (F := QwFnExactDoMove) follows (envTy_mk tys_z5_eq).cutS (envSpec_of (specsOk_cons okwtoMove (specsOk_cons okiDoMove (specsOk_cons okweqMachine (specsOk_cons okweqProg (specsOk_cons okwmarkProg (specsOk_cons okwmarkMachine (specsOk_cons okwheldMachine (specsOk_cons okwszProg (specsOk_cons okwszMachine (specsOk_cons oksDoMove (specsOk_cons okwtoProg (specsOk_cons okwtoMachine specsOk_nil))))))))))))).cutS Go.Proofs.Tryz.func3 (by kernel_rfl) (by kernel_rfl) (by rw [show subs QwFnExactDoMove.code = [] by kernel_rfl]; trivial) (by kernel_rfl) (by kernel_rfl) rfl
theorem FwFnExactDoMove_at (p : Prog) (m : Machine) (t : Int) (dr : Bool) (h : bndZ p.codes ∧ m.cells.length ≤ 9223372036854775807 ∧ bndTZ m.ths) : FwFnExactDoMove [S.agg (encProg false p), S.agg (encMa false m), S.agg [C.int t, C.bool dr]] = some (S.one (C.bool true), [S.one C.unk, S.one C.unk, S.one C.unk]) := by
  obtain ⟨hb, hmc, hmt⟩ := h
  rw [mwFnExactDoMove, FwszProg_at p 1048576 ⟨hb, by omega, by omega⟩]
  by_cases hs : take0 (p.codes.length + sumL p.codes) 1048576 < 0
  · simp [hs]
  obtain ⟨hs1, hs2⟩ := take0_some hs (by omega)
  generalize hq : take0 (p.codes.length + sumL p.codes) 1048576 = q at *
  have hsz := FwszMachine_at m q ⟨hmc, hmt, by omega, by omega⟩
  by_cases hs3 : take0 (m.cells.length + (m.ths.length + thsS m.ths)) q < 0
  · simp [hs, hsz, hs3]
  obtain ⟨hs4, hs5⟩ := take0_some hs3 (by omega)
  generalize hq2 : take0 (m.cells.length + (m.ths.length + thsS m.ths)) q = q2 at *
  have hcl : p.codes.length ≤ 1048576 ∧ sumL p.codes ≤ 1048576 := by omega
  have hcm : ∀ c ∈ p.codes, c.length ≤ 1048576 := fun c hc => Nat.le_trans (sumL_mem hc) hcl.2
  have hbl : bndL p.codes := ⟨by omega, fun c hc => by have := hcm c hc; omega⟩
  have hN := thsN_leS m.ths
  have hmk : markable m := ⟨by omega, bT_leS (n := 1048576) (by omega) (by omega) (by omega), by omega⟩
  have a3 := FsDoMove_at p m t dr ⟨hbl, hmk.1, hmk.2.1⟩
  have a4 := FiDoMove_at p m t dr ⟨hbl, hmk.1, hmk.2.1⟩
  have hRk : markable (bif canP p m t dr then mvM p m t dr else m) := by
    cases hc : canP p m t dr
    · exact hmk
    · have hc' := hc
      simp only [canP, Bool.and_eq_true] at hc'
      exact markable_isMa hc'.1.1 (isMa_mv hc'.1.1 hc'.1.2 hc'.2)
  generalize (bif canP p m t dr then mvM p m t dr else m) = R at *
  generalize canP p m t dr = b at *
  obtain ⟨m1, m2, m3⟩ := hmk
  obtain ⟨r1, r2, r3⟩ := hRk
  have n1 := thsN_pos m.ths
  have n2 := thsN_pos R.ths
  have a1 := FwtoProg_at p ⟨hcl.1, hcm⟩
  have a2 := FwtoMachine_at m ⟨m1, m2⟩
  have a5 := FweqMachine_at R R ⟨by omega, bndT_of r2⟩
  have a6 := FweqProg_at p p hbl
  have a7 := FweqMachine_at m m ⟨by omega, bndT_of m2⟩
  have a8 := FwmarkProg_at p 1 ⟨hcl.1, hcl.2, by omega, by omega⟩
  have a9 := FwmarkMachine_at m (1 + 4 * (sumL p.codes : Int)) ⟨m1, m2, by omega, by omega⟩
  have a10 := FwmarkMachine_at R 1 ⟨r1, r2, by omega, by omega⟩
  have a11 := FwheldMachine_at R 1 ⟨r1, r2, by omega, by omega⟩
  have a12 := FwtoMove_at ⟨t, dr⟩
  have e1 : ¬ (1 + 4 * (sumL p.codes : Int) + maN m < 0) := by unfold maN; omega
  have e2 : ¬ (1 + maN R < 0) := by unfold maN; omega
  simp only [encMove] at a12
  simp [hs, hsz, hs3, mwFnExactDoMove_1, mwFnExactDoMove_2, mwFnExactDoMove_3, a1, a2, a3, a4, a5, a6, a7, a8, a9, a10, a11, a12, e1, e2, both_self]
end Go.Proofs.Gh.Gm
