/- The program's functions by the ghost evaluator: what each computes, and that it does. -/
import Derived.Test.YtmpnmcnjhpekaaaGh47
import Derived.Test.YtmpnmcnjhpekaaaGh48
import Derived.Test.YtmpnmcnjhpekaaaGh45
import Derived.Test.YtmpnmcnjhpekaaaProg
import Derived.KernelRfl
set_option linter.unusedVariables false
set_option linter.unusedSimpArgs false
set_option maxRecDepth 100000
set_option maxHeartbeats 2000000
namespace Go.Proofs.Gh.Gm
def tys_k1 : List (Nat × TI) := [(3, ⟨false, 8, [.int .i64], [.int 0], .scalar, false, none⟩),
  (4, ⟨false, 1, [.bool], [.bool false], .scalar, false, none⟩),
  (23, ⟨false, 24, [.sl 1], [.sl true (some true) 1 []], .slice 3, false, none⟩)]
theorem tys_k1_eq : tys_k1.map (fun x => tiOf Go.Proofs.Try.prog x.1 x.2.cks) = tys_k1.map fun x => some x.2 := by kernel_rfl
theorem follows : Go.Proofs.Try.prog.follows .mixedOrders = true := by kernel_rfl
abbrev encInt (n : Int) : List C := [.int n]
@[simp] theorem encInt_free (l : List Int) : rowsFree (l.map encInt) = true := rowsFree_map fun _ _ => rfl
@[simp] theorem encInt_freeze (l : List Int) : freezeRows (l.map encInt) = l.map encInt := freezeRows_map fun _ _ => rfl
theorem encInt_plain (x : Int) : (encInt x).length = 1 ∧ ∀ c ∈ encInt x, ∃ v : Value, c = .v v := ⟨rfl, by intro c hc; simp [encInt] at hc; subst hc; exact ⟨_, rfl⟩⟩
@[simp] theorem md_Int0 {l : List Int} {i : Nat} (v : Int) (hi : i < l.length) : md (l.map encInt) i 0 (.int v) = (l.set i v).map encInt := md_map hi rfl
/-! weqIntS: loop.example/g00712/laws.eqIntS -/
@[reducible] def hweqIntS_4 : Sh := ⟨[.one (.o (.sl false 1)), .one (.o (.sl false 1)), .one (.o (.i .i64))], []⟩
@[reducible] def xweqIntS_4 : List (Ex × Sh) := [(.ret, ⟨[.one (.o .b)], []⟩), (.exit 0, ⟨[.one (.o .u)], []⟩)]
noncomputable def RweqIntS_4 : KC xweqIntS_4 (hweqIntS_4.K → hweqIntS_4.K) := fun k0 k1 nx v1 v2 v3 v4 v5 => bif decide (v5 < (v2.length : Int)) then ix v5 v2 ((v2[Int.toNat v5]?).bind fun w1 => tRo [.int .i64] w1 fun n1 => ix v5 v4 ((v4[Int.toNat v5]?).bind fun w2 => tRo [.int .i64] w2 fun n2 => bif n1 != n2 then k0 false else nx v1 v2 v3 v4 (W (v5 + 1)))) else k1
noncomputable def LweqIntS_4 : Lp := ⟨4, [0, 1, 5], [4], 0, 26, hweqIntS_4, xweqIntS_4, RweqIntS_4⟩
noncomputable def QweqIntS : Fx := ⟨Go.Proofs.Try.f19, [.ro, .ro], false, mkEnv tys_k1 [] [], fun id => bif Nat.beq id 6 then .sq [0, 1, 2, 3, 4, 5, 6, 7, 8] .stop else .stop, [LweqIntS_4]⟩
noncomputable def FweqIntS : List S → Option Res := veil QweqIntS.run
noncomputable def SweqIntS : Spec := ⟨[.ro, .ro], false, FweqIntS⟩
theorem mweqIntS (x1 : Option Bool) (x2 : List (List C)) (x3 : Option Bool) (x4 : List (List C)) : FweqIntS [.one (.sl false x1 1 x2), .one (.sl false x3 1 x4)] = bif (x2.length : Int) != (x4.length : Int) then fr false 2 [.one (.bool false)] else iterC (RweqIntS_4 (fun y1 => fr false 2 [.one (.bool y1)]) (fr false 2 [.one (.bool true)])) FUEL x1 x2 x3 x4 0 := Fx.eq (by kernel_rfl)
theorem stweqIntS_4 : LweqIntS_4.Step QweqIntS.E QweqIntS.dr QweqIntS.lp ((findLoop 4 QweqIntS.code).getD .skip) := fun k nx v => by kernel_rfl
theorem okweqIntS : CalleeOk Go.Proofs.Try.prog 19 SweqIntS := Fx.ok (F := QweqIntS) follows (envTy_mk tys_k1_eq) (envSpec_of (specsOk_nil)) Go.Proofs.Try.func19 (by kernel_rfl) (by kernel_rfl) (by
  rw [show subs QweqIntS.code = [(findLoop 4 QweqIntS.code).getD .skip] by kernel_rfl]
  exact ⟨stepAt_some (by kernel_rfl) stweqIntS_4, trivial⟩) (by kernel_rfl) (by kernel_rfl) rfl
theorem FweqIntS_at (nl : Option Bool) (a : List Int) (nl' : Option Bool) (b : List Int) (h : a.length < 4611686018427387904) : FweqIntS [S.one (C.sl false nl 1 (a.map encInt)), S.one (C.sl false nl' 1 (b.map encInt))] = some (S.one (C.bool (decide (a = b))), [S.one C.unk, S.one C.unk]) := by
  rw [mweqIntS]
  by_cases hl : a.length = b.length
  · have e1 : (((a.map encInt).length : Int) != ((b.map encInt).length : Int)) = false := by simp [hl]
    rw [e1, cond_false]
    refine (iter_eq (h := hweqIntS_4) a b (fun i f => f nl (a.map encInt) nl' (b.map encInt) (i : Int)) (fr false 2 [.one (.bool true)]) (fr false 2 [.one (.bool false)]) h hl ?_ ?_).trans ?_
    · intro nx; simp [RweqIntS_4]
    · intro nx i hi hi' hW
      have e' : (a[i] == b[i]) = decide (a[i] = b[i]) := by by_cases e : a[i] = b[i] <;> simp [e]
      simp [RweqIntS_4, hi, hi', hW, bne, e']
      try (cases decide (a[i] = b[i]) <;> simp)
    · by_cases e : a = b <;> simp [e]
  · have e1 : (((a.map encInt).length : Int) != ((b.map encInt).length : Int)) = true := by simp; omega
    have e2 : ¬ a = b := fun e => hl (by rw [e])
    rw [e1]; simp [e2]
def mkIntS (n : Nat) (k : Int) : List Int := (List.range n).map fun (i : Nat) => k + (i : Int)
@[simp] theorem mkIntS_len (n : Nat) (k : Int) : (mkIntS n k).length = n := by simp [mkIntS]
/-! wmarkIntS: loop.example/g00712/laws.markIntS -/
@[reducible] def hwmarkIntS_2 : Sh := ⟨[.one (.o (.al 0 0 [])), .one (.o (.i .i64)), .one (.o (.i .i64))], [(false, [.o (.sl true 1)])]⟩
@[reducible] def xwmarkIntS_2 : List (Ex × Sh) := [(.exit 0, ⟨[.one (.o (.i .i64))], [(false, [.o (.sl true 1)])]⟩)]
noncomputable def RwmarkIntS_2 : KC xwmarkIntS_2 (hwmarkIntS_2.K → hwmarkIntS_2.K) := fun k0 nx v1 v2 v3 v4 => bif decide (v2 < (v4.length : Int)) then ix v2 v4 (oc (.int .i64) v4 (Int.toNat v2) 0 ((let e1 : List (List C) := md v4 (Int.toNat v2) 0 (.int v1); nx (W (v1 + 1)) (W (v2 + 1)) v3 e1))) else k0 v1 v3 v4
noncomputable def LwmarkIntS_2 : Lp := ⟨2, [0, 1, 5], [1], 1, 19, hwmarkIntS_2, xwmarkIntS_2, RwmarkIntS_2⟩
noncomputable def QwmarkIntS : Fx := ⟨Go.Proofs.Try.f25, [.io, .ro], false, mkEnv tys_k1 [] [], fun _ => .stop, [LwmarkIntS_2]⟩
noncomputable def FwmarkIntS : List S → Option Res := veil QwmarkIntS.run
noncomputable def SwmarkIntS : Spec := ⟨[.io, .ro], false, FwmarkIntS⟩
theorem mwmarkIntS (x1 : Option Bool) (x2 : List (List C)) (x3 : Int) : FwmarkIntS [.one (.sl true x1 1 x2), .one (.int x3)] = iterC (RwmarkIntS_2 (fun y1 y2 y3 => fin false [.one (.sl true x1 1 x2), .one (.int x3)] [.one (.int y1)] [.one (.sl true y2 1 y3), .one .unk])) FUEL x3 0 x1 x2 := Fx.eq (by kernel_rfl)
theorem stwmarkIntS_2 : LwmarkIntS_2.Step QwmarkIntS.E QwmarkIntS.dr QwmarkIntS.lp ((findLoop 2 QwmarkIntS.code).getD .skip) := fun k nx v => by kernel_rfl
theorem okwmarkIntS : CalleeOk Go.Proofs.Try.prog 25 SwmarkIntS := Fx.ok (F := QwmarkIntS) follows (envTy_mk tys_k1_eq) (envSpec_of (specsOk_nil)) Go.Proofs.Try.func25 (by kernel_rfl) (by kernel_rfl) (by
  rw [show subs QwmarkIntS.code = [(findLoop 2 QwmarkIntS.code).getD .skip] by kernel_rfl]
  exact ⟨stepAt_some (by kernel_rfl) stwmarkIntS_2, trivial⟩) (by kernel_rfl) (by kernel_rfl) rfl
theorem FwmarkIntS_at (nl : Option Bool) (l : List Int) (k : Int) (h : l.length ≤ 1048576 ∧ 0 ≤ k ∧ k ≤ 1152921504606846976) : FwmarkIntS [S.one (C.sl true nl 1 (l.map encInt)), S.one (C.int k)] = some (S.one (C.int (k + (l.length : Int))), [S.one (C.sl true nl 1 ((mkIntS l.length k).map encInt)), S.one C.unk]) := by
  rw [mwmarkIntS]
  have key : ∀ k0 : Int → Option Bool → List (List C) → Option Res, iterC (RwmarkIntS_2 k0) FUEL k 0 nl (l.map encInt) = k0 (k + (l.length : Int)) nl ((mkIntS l.length k).map encInt) := fun k0 => by
    have := iter_set (h := hwmarkIntS_2) (fb := RwmarkIntS_2 k0) l (fun (i : Nat) => (k + (i : Int) : Int)) (fun i a f => f (k + (i : Int)) (i : Int) nl (a.map encInt)) (fun a => k0 (k + (l.length : Int)) nl (a.map encInt)) (by omega) ?_ ?_
    · simpa [mkIntS] using this
    · intro nx a ha
      simp [RwmarkIntS_2, ha]
    · intro nx i a hi ha hW
      have w0 : W (k + (i : Int) + 1) = k + (i : Int) + 1 := by rw [W_eq (by omega) (by omega)]
      have w : k + ((i : Int) + 1) = k + (i : Int) + 1 := by omega
      simp [-List.map_set, RwmarkIntS_2, hi, hW, w, w0]
  rw [key]
  simp
/-! wheldIntS: loop.example/g00712/laws.heldIntS -/
@[reducible] def hwheldIntS_2 : Sh := ⟨[.one (.o (.sl false 1)), .one (.o (.i .i64)), .one (.o (.i .i64))], []⟩
@[reducible] def xwheldIntS_2 : List (Ex × Sh) := [(.ret, ⟨[.one (.o (.i .i64)), .one (.o (.i .i64))], []⟩), (.exit 0, ⟨[.one (.o (.i .i64)), .one (.o .u)], []⟩)]
noncomputable def RwheldIntS_2 : KC xwheldIntS_2 (hwheldIntS_2.K → hwheldIntS_2.K) := fun k0 k1 nx v1 v2 v3 v4 => bif decide (v4 < (v2.length : Int)) then ix v4 v2 ((v2[Int.toNat v4]?).bind fun w1 => tRo [.int .i64] w1 fun n1 => bif n1 != v3 then k0 v3 (-1) else nx v1 v2 (W (v3 + 1)) (W (v4 + 1))) else k1 v3
noncomputable def LwheldIntS_2 : Lp := ⟨2, [0, 1, 5], [1, 4], 0, 21, hwheldIntS_2, xwheldIntS_2, RwheldIntS_2⟩
noncomputable def QwheldIntS : Fx := ⟨Go.Proofs.Try.f26, [.ro, .ro], false, mkEnv tys_k1 [] [], fun _ => .stop, [LwheldIntS_2]⟩
noncomputable def FwheldIntS : List S → Option Res := veil QwheldIntS.run
noncomputable def SwheldIntS : Spec := ⟨[.ro, .ro], false, FwheldIntS⟩
theorem mwheldIntS (x1 : Option Bool) (x2 : List (List C)) (x3 : Int) : FwheldIntS [.one (.sl false x1 1 x2), .one (.int x3)] = iterC (RwheldIntS_2 (fun y1 y2 => fr false 2 [.one (.int y2)]) (fun y3 => fr false 2 [.one (.int y3)])) FUEL x1 x2 x3 0 := Fx.eq (by kernel_rfl)
theorem stwheldIntS_2 : LwheldIntS_2.Step QwheldIntS.E QwheldIntS.dr QwheldIntS.lp ((findLoop 2 QwheldIntS.code).getD .skip) := fun k nx v => by kernel_rfl
theorem okwheldIntS : CalleeOk Go.Proofs.Try.prog 26 SwheldIntS := Fx.ok (F := QwheldIntS) follows (envTy_mk tys_k1_eq) (envSpec_of (specsOk_nil)) Go.Proofs.Try.func26 (by kernel_rfl) (by kernel_rfl) (by
  rw [show subs QwheldIntS.code = [(findLoop 2 QwheldIntS.code).getD .skip] by kernel_rfl]
  exact ⟨stepAt_some (by kernel_rfl) stwheldIntS_2, trivial⟩) (by kernel_rfl) (by kernel_rfl) rfl
theorem FwheldIntS_at (nl : Option Bool) (n : Nat) (k : Int) (h : n ≤ 1048576 ∧ 0 ≤ k ∧ k ≤ 1152921504606846976) : FwheldIntS [S.one (C.sl false nl 1 ((mkIntS n k).map encInt)), S.one (C.int k)] = some (S.one (C.int (k + (n : Int))), [S.one C.unk, S.one C.unk]) := by
  rw [mwheldIntS]
  have := iter_all (h := hwheldIntS_2) (fb := RwheldIntS_2 (fun y1 y2 => fr false 2 [.one (.int y2)]) (fun y3 => fr false 2 [.one (.int y3)])) (mkIntS n k) (fun i f => f nl ((mkIntS n k).map encInt) (k + (i : Int)) (i : Int)) (fun _ => true) (fr false 2 [.one (.int (k + (n : Int)))]) none (by simp; omega) ?_ ?_
  · simpa using this
  · intro nx; simp [RwheldIntS_2]
  · intro nx i hi hW
    have hi' : i < n := by simpa using hi
    have w0 : W (k + (i : Int) + 1) = k + (i : Int) + 1 := by rw [W_eq (by omega) (by omega)]
    have w : k + ((i : Int) + 1) = k + (i : Int) + 1 := by omega
    simp [RwheldIntS_2, mkIntS, hi', hW, w, w0]
@[ext] structure Instr where
  op : Int
  r : Int
  s : Int
  n : Int
deriving DecidableEq
abbrev encInstr (c : Instr) : List C := [.int c.op, .int c.r, .int c.s, .int c.n]
@[simp] theorem encInstr_free (l : List Instr) : rowsFree (l.map encInstr) = true := rowsFree_map fun _ _ => rfl
@[simp] theorem encInstr_freeze (l : List Instr) : freezeRows (l.map encInstr) = l.map encInstr := freezeRows_map fun _ _ => rfl
theorem encInstr_plain (x : Instr) : (encInstr x).length = 4 ∧ ∀ c ∈ encInstr x, ∃ v : Value, c = .v v := ⟨rfl, by intro c hc; simp [encInstr] at hc; rcases hc with rfl | rfl | rfl | rfl <;> exact ⟨_, rfl⟩⟩
@[simp] theorem md_Instr0 {l : List Instr} {i : Nat} (v : Int) (hi : i < l.length) : md (l.map encInstr) i 0 (.int v) = (l.set i ⟨v, l[i].r, l[i].s, l[i].n⟩).map encInstr := md_map hi rfl
@[simp] theorem md_Instr1 {l : List Instr} {i : Nat} (v : Int) (hi : i < l.length) : md (l.map encInstr) i 1 (.int v) = (l.set i ⟨l[i].op, v, l[i].s, l[i].n⟩).map encInstr := md_map hi rfl
@[simp] theorem md_Instr2 {l : List Instr} {i : Nat} (v : Int) (hi : i < l.length) : md (l.map encInstr) i 2 (.int v) = (l.set i ⟨l[i].op, l[i].r, v, l[i].n⟩).map encInstr := md_map hi rfl
@[simp] theorem md_Instr3 {l : List Instr} {i : Nat} (v : Int) (hi : i < l.length) : md (l.map encInstr) i 3 (.int v) = (l.set i ⟨l[i].op, l[i].r, l[i].s, v⟩).map encInstr := md_map hi rfl
def mkInstrS (n : Nat) (k : Int) : List Instr := (List.range n).map fun (i : Nat) => ⟨k + 4 * (i : Int), k + 4 * (i : Int) + 1, k + 4 * (i : Int) + 2, k + 4 * (i : Int) + 3⟩
@[simp] theorem mkInstrS_len (n : Nat) (k : Int) : (mkInstrS n k).length = n := by simp [mkInstrS]
@[ext] structure Slot where
  a : Int
  v : Int
deriving DecidableEq
abbrev encSlot (c : Slot) : List C := [.int c.a, .int c.v]
@[simp] theorem encSlot_free (l : List Slot) : rowsFree (l.map encSlot) = true := rowsFree_map fun _ _ => rfl
@[simp] theorem encSlot_freeze (l : List Slot) : freezeRows (l.map encSlot) = l.map encSlot := freezeRows_map fun _ _ => rfl
theorem encSlot_plain (x : Slot) : (encSlot x).length = 2 ∧ ∀ c ∈ encSlot x, ∃ v : Value, c = .v v := ⟨rfl, by intro c hc; simp [encSlot] at hc; rcases hc with rfl | rfl <;> exact ⟨_, rfl⟩⟩
@[simp] theorem md_Slot0 {l : List Slot} {i : Nat} (v : Int) (hi : i < l.length) : md (l.map encSlot) i 0 (.int v) = (l.set i ⟨v, l[i].v⟩).map encSlot := md_map hi rfl
@[simp] theorem md_Slot1 {l : List Slot} {i : Nat} (v : Int) (hi : i < l.length) : md (l.map encSlot) i 1 (.int v) = (l.set i ⟨l[i].a, v⟩).map encSlot := md_map hi rfl
def mkSlotS (n : Nat) (k : Int) : List Slot := (List.range n).map fun (i : Nat) => ⟨k + 2 * (i : Int), k + 2 * (i : Int) + 1⟩
@[simp] theorem mkSlotS_len (n : Nat) (k : Int) : (mkSlotS n k).length = n := by simp [mkSlotS]
@[ext] structure Move where
  t : Int
  drain : Bool
deriving DecidableEq
abbrev encMove (c : Move) : List C := [.int c.t, .bool c.drain]
@[simp] theorem encMove_free (l : List Move) : rowsFree (l.map encMove) = true := rowsFree_map fun _ _ => rfl
@[simp] theorem encMove_freeze (l : List Move) : freezeRows (l.map encMove) = l.map encMove := freezeRows_map fun _ _ => rfl
theorem encMove_plain (x : Move) : (encMove x).length = 2 ∧ ∀ c ∈ encMove x, ∃ v : Value, c = .v v := ⟨rfl, by intro c hc; simp [encMove] at hc; rcases hc with rfl | rfl <;> exact ⟨_, rfl⟩⟩
@[simp] theorem md_Move0 {l : List Move} {i : Nat} (v : Int) (hi : i < l.length) : md (l.map encMove) i 0 (.int v) = (l.set i ⟨v, l[i].drain⟩).map encMove := md_map hi rfl
@[simp] theorem md_Move1 {l : List Move} {i : Nat} (v : Bool) (hi : i < l.length) : md (l.map encMove) i 1 (.bool v) = (l.set i ⟨l[i].t, v⟩).map encMove := md_map hi rfl
def mkMoveS (n : Nat) (k : Int) : List Move := (List.range n).map fun (i : Nat) => ⟨k + 2 * (i : Int), (Int.tmod (k + 2 * (i : Int) + 1) 3 == 0)⟩
@[simp] theorem mkMoveS_len (n : Nat) (k : Int) : (mkMoveS n k).length = n := by simp [mkMoveS]
end Go.Proofs.Gh.Gm
set_option linter.unusedVariables false
set_option linter.unusedSimpArgs false
set_option maxRecDepth 100000
set_option maxHeartbeats 2000000
namespace Go.Proofs.Gh.Gm
def tys_b0 : List (Nat × TI) := [(3, ⟨false, 8, [.int .i64], [.int 0], .scalar, false, none⟩),
  (4, ⟨false, 1, [.bool], [.bool false], .scalar, false, none⟩)]
theorem tys_b0_eq : tys_b0.map (fun x => tiOf Go.Proofs.Try.prog x.1 x.2.cks) = tys_b0.map fun x => some x.2 := by kernel_rfl
/-! iwithin: loop.example/g00712/impl.within -/
noncomputable def Qiwithin : Fx := ⟨Go.Proofs.Try.f85, [.ro, .ro, .ro], false, mkEnv tys_b0 [] [], fun _ => .stop, []⟩
noncomputable def Fiwithin : List S → Option Res := veil Qiwithin.run
noncomputable def Siwithin : Spec := ⟨[.ro, .ro, .ro], false, Fiwithin⟩
theorem miwithin (x1 : Int) (x2 : Int) (x3 : Int) : Fiwithin [.one (.int x1), .one (.int x2), .one (.int x3)] = bif decide (x1 ≥ x2) then fr false 3 [.one (.bool (decide (x1 ≤ x3)))] else fr false 3 [.one (.bool false)] := Fx.eq (by kernel_rfl)
theorem okiwithin : CalleeOk Go.Proofs.Try.prog 85 Siwithin := Fx.ok (F := Qiwithin) follows (envTy_mk tys_b0_eq) (envSpec_of (specsOk_nil)) Go.Proofs.Try.func85 (by kernel_rfl) (by kernel_rfl) (by rw [show subs Qiwithin.code = [] by kernel_rfl]; trivial) (by kernel_rfl) (by kernel_rfl) rfl
theorem Fiwithin_at (n a b : Int) : Fiwithin [S.one (C.int n), S.one (C.int a), S.one (C.int b)] = some (S.one (C.bool (inB n a b)), [S.one C.unk, S.one C.unk, S.one C.unk]) := by
  by_cases h1 : a ≤ n <;> simp [miwithin, inB, h1]
/-! sl01In: loop.example/g00712/spec.l01In -/
noncomputable def Qsl01In : Fx := ⟨Go.Proofs.Try.f63, [.ro, .ro, .ro], false, mkEnv tys_b0 [] [], fun _ => .stop, []⟩
noncomputable def Fsl01In : List S → Option Res := veil Qsl01In.run
noncomputable def Ssl01In : Spec := ⟨[.ro, .ro, .ro], false, Fsl01In⟩
theorem msl01In (x1 : Int) (x2 : Int) (x3 : Int) : Fsl01In [.one (.int x1), .one (.int x2), .one (.int x3)] = bif decide (x2 ≤ x1) then fr false 3 [.one (.bool (decide (x1 ≤ x3)))] else fr false 3 [.one (.bool false)] := Fx.eq (by kernel_rfl)
theorem oksl01In : CalleeOk Go.Proofs.Try.prog 63 Ssl01In := Fx.ok (F := Qsl01In) follows (envTy_mk tys_b0_eq) (envSpec_of (specsOk_nil)) Go.Proofs.Try.func63 (by kernel_rfl) (by kernel_rfl) (by rw [show subs Qsl01In.code = [] by kernel_rfl]; trivial) (by kernel_rfl) (by kernel_rfl) rfl
theorem Fsl01In_at (n a b : Int) : Fsl01In [S.one (C.int n), S.one (C.int a), S.one (C.int b)] = some (S.one (C.bool (inB n a b)), [S.one C.unk, S.one C.unk, S.one C.unk]) := by
  by_cases h1 : a ≤ n <;> simp [msl01In, inB, h1]
theorem foldl_snoc {α : Type} (l acc : List α) : l.foldl (fun a x => a ++ [x]) acc = acc ++ l := by
  induction l generalizing acc with
  | nil => simp
  | cons x l ih => rw [List.foldl_cons, ih]; simp
abbrev rho (F T E : Nat) : Go.Shelf.Ren := ⟨fun _ => F, fun t => if t = 22 then T else if t = 23 then E else t, fun x => x⟩
end Go.Proofs.Gh.Gm
set_option linter.unusedVariables false
set_option linter.unusedSimpArgs false
set_option maxRecDepth 100000
set_option maxHeartbeats 2000000
namespace Go.Proofs.Gh.Gm
def tys_d1 : List (Nat × TI) := [(3, ⟨false, 8, [.int .i64], [.int 0], .scalar, false, none⟩),
  (4, ⟨false, 1, [.bool], [.bool false], .scalar, false, none⟩),
  (5, ⟨false, 1, [.int .u8], [.v (.int .u8 0)], .scalar, false, none⟩),
  (23, ⟨false, 24, [.sl 1], [.sl true (some true) 1 []], .slice 3, false, none⟩),
  (38, ⟨false, 24, [.sl 1], [.sl true (some true) 1 []], .slice 5, false, none⟩),
  (71, ⟨true, 24, [.sl 1], [.sl true (some true) 1 []], .struct [(0, 1, false)], false, none⟩),
  (112, ⟨false, 8, [.other], [.v (Value.pointer none)], .scalar, false, none⟩),
  (168, ⟨true, 40, [.sl 1, .int .i64, .int .i64], [.sl true (some true) 1 [], .int 0, .int 0], .struct [(0, 1, false), (1, 1, false), (2, 1, false)], false, none⟩)]
theorem tys_d1_eq : tys_d1.map (fun x => tiOf Go.Proofs.Try.prog x.1 x.2.cks) = tys_d1.map fun x => some x.2 := by kernel_rfl
@[simp] theorem one?_one (c : C) : S.one? (.one c) = some c := rfl
@[simp] theorem asCur_bx (n : Nat) (nl : Option Bool) (es : List (List C)) (a b : Int) : C.asCur n (.bx [.sl false nl n es, .v (.int .i64 a), .v (.int .i64 b)]) = some (nl, es, a, b) := by simp [C.asCur]
attribute [simp] both_self
/-- Both ways, and word for word alike. -/
noncomputable def dup (x : Option Res) : Option Res := both x x
@[simp] theorem dup_eq (x : Option Res) : dup x = x := both_self x
/-- It yields something of that kind. -/
def Ok (x : Option Res) (Q : Res → Prop) : Prop := ∃ r, x = some r ∧ Q r
theorem ok_let {α : Type} {v : α} {e : α → Option Res} {Q : Res → Prop} (h : ∀ q, q = v → Ok (e q) Q) : Ok (let q := v; e q) Q := h v rfl
theorem ok_eq {x : Option Res} {Q : Res → Prop} {r : Res} (h : x = some r) (hQ : Q r) : Ok x Q := ⟨r, h, hQ⟩
theorem ok_of {x y : Option Res} {Q : Res → Prop} (h : x = y) (hy : Ok y Q) : Ok x Q := h ▸ hy
theorem iter_ex {h : Sh} {fb : h.K → h.K} {A : Type} (n : Nat) (ev : Nat → A → h.K → Option Res) (I : Nat → A → Prop) (Q : Res → Prop) (hn : n < 4611686018427387904)
    (h0 : ∀ nx a, I n a → Ok (ev n a (fb nx)) Q)
    (h1 : ∀ nx i a, i < n → I i a → W ((i : Int) + 1) = (i : Int) + 1 → (∃ a', I (i + 1) a' ∧ ev i a (fb nx) = ev (i + 1) a' nx) ∨ Ok (ev i a (fb nx)) Q) :
    ∀ a, I 0 a → Ok (ev 0 a (iterC fb FUEL)) Q := by
  have key : ∀ (j i : Nat) (a : A), n < i + j → i ≤ n → I i a → Ok (ev i a (iterC fb j)) Q := by
    intro j
    induction j with
    | zero => intro i a h1 h2; omega
    | succ j ih =>
      intro i a hj hi hI
      rw [iterC_succ]
      by_cases e : i = n
      · subst e; exact h0 _ _ hI
      · rcases h1 (iterC fb j) i a (by omega) hI (W_eq (by omega) (by omega)) with ⟨a', hI', e1⟩ | h
        · rw [e1]; exact ih (i + 1) a' (by omega) (by omega) hI'
        · exact h
  intro a hI
  exact key FUEL 0 a (by rw [FUEL_eq]; omega) (Nat.zero_le _) hI
theorem iter_ok {h : Sh} {fb : h.K → h.K} {A : Type} (n : Nat) (ev : Nat → A → h.K → Option Res) (I : Nat → A → Prop) (Q : Res → Prop) (hn : n < 4611686018427387904)
    (h0 : ∀ nx a, I n a → Ok (ev n a (fb nx)) Q)
    (h1 : ∀ nx i a, i < n → I i a → W ((i : Int) + 1) = ((i + 1 : Nat) : Int) → (∀ a', I (i + 1) a' → Ok (ev (i + 1) a' nx) Q) → Ok (ev i a (fb nx)) Q) :
    ∀ a, I 0 a → Ok (ev 0 a (iterC fb FUEL)) Q := by
  have key : ∀ (j i : Nat) (a : A), n < i + j → i ≤ n → I i a → Ok (ev i a (iterC fb j)) Q := by
    intro j
    induction j with
    | zero => intro i a h1 h2; omega
    | succ j ih =>
      intro i a hj hi hI
      rw [iterC_succ]
      by_cases e : i = n
      · subst e; exact h0 _ _ hI
      · exact h1 (iterC fb j) i a (by omega) hI (by rw [W_eq (by omega) (by omega)]; omega) fun a' hI' => ih (i + 1) a' (by omega) (by omega) hI'
  intro a hI
  exact key FUEL 0 a (by rw [FUEL_eq]; omega) (Nat.zero_le _) hI
/-- A draw's cursor. -/
structure Cu where
  o : Option Bool
  bs : List Int
  i : Int
  h : Int
abbrev encB (n : Int) : List C := [.v (.int .u8 n)]
abbrev encCu (c : Cu) : C := .bx [.sl false c.o 1 (c.bs.map encB), .int c.i, .int c.h]
def cuOk (c : Cu) : Prop := 0 ≤ c.i ∧ c.bs.length ≤ 1099511627776
theorem and255 (a : Int) : ∃ x : Nat, x ≤ 255 ∧ W (((BitVec.ofInt (IntKind.bits .i64) a &&& BitVec.ofInt (IntKind.bits .i64) 255).toNat : Int)) = (x : Int) := by
  have h : (BitVec.ofInt (IntKind.bits .i64) a &&& BitVec.ofInt (IntKind.bits .i64) 255).toNat ≤ 255 := by
    rw [BitVec.toNat_and]
    exact Nat.le_trans Nat.and_le_right (by decide)
  exact ⟨_, h, W_eq (by omega) (by omega)⟩
/-! sl01New: loop.example/g00712/spec.l01New -/
@[reducible] def hsl01New_3 : Sh := ⟨[.one (.o (.sl false 1)), .one (.o (.i .i64)), .one (.o (.i .i64))], []⟩
@[reducible] def xsl01New_3 : List (Ex × Sh) := [(.exit 0, ⟨[.one (.o (.sl false 1)), .one (.o (.i .i64))], []⟩)]
noncomputable def Rsl01New_3 : KC xsl01New_3 (hsl01New_3.K → hsl01New_3.K) := fun k0 nx v1 v2 v3 v4 => bif decide (v4 < (v2.length : Int)) then bif decide (v4 < 4000) then ix v4 v2 ((v2[Int.toNat v4]?).bind fun w1 => tRo [.int .u8] w1 fun n1 => nx v1 v2 (W (((BitVec.ofInt (IntKind.bits .i64) (W ((W ((W (v3 * 149)) + (W (n1)))) + 11)) &&& BitVec.ofInt (IntKind.bits .i64) 1073741823).toNat : Int))) (W (v4 + 1))) else k0 v1 v2 v3 else k0 v1 v2 v3
noncomputable def Lsl01New_3 : Lp := ⟨3, [0, 3, 4], [0, 3], 0, 32, hsl01New_3, xsl01New_3, Rsl01New_3⟩
noncomputable def Qsl01New : Fx := ⟨Go.Proofs.Try.f97, [.ro], true, mkEnv tys_d1 [] [], fun _ => .stop, [Lsl01New_3]⟩
noncomputable def Fsl01New : List S → Option Res := veil Qsl01New.run
noncomputable def Ssl01New : Spec := ⟨[.ro], true, Fsl01New⟩
theorem msl01New (x1 : Option Bool) (x2 : List (List C)) : Fsl01New [.one (.sl false x1 1 x2)] = iterC (Rsl01New_3 (fun y1 y2 y3 => fr true 1 [.one (.bx [.sl false none 1 y2, .int 0, .int y3])])) FUEL x1 x2 (W (712712 + (x2.length : Int))) 0 := Fx.eq (by kernel_rfl)
theorem stsl01New_3 : Lsl01New_3.Step Qsl01New.E Qsl01New.dr Qsl01New.lp ((findLoop 3 Qsl01New.code).getD .skip) := fun k nx v => by kernel_rfl
theorem oksl01New : CalleeOk Go.Proofs.Try.prog 97 Ssl01New := Fx.ok (F := Qsl01New) follows (envTy_mk tys_d1_eq) (envSpec_of (specsOk_nil)) Go.Proofs.Try.func97 (by kernel_rfl) (by kernel_rfl) (by
  rw [show subs Qsl01New.code = [(findLoop 3 Qsl01New.code).getD .skip] by kernel_rfl]
  exact ⟨stepAt_some (by kernel_rfl) stsl01New_3, trivial⟩) (by kernel_rfl) (by kernel_rfl) rfl
theorem dNew (o : Option Bool) (bs : List Int) (h : bs.length ≤ 1099511627776) : ∃ c', Fsl01New [.one (.sl false o 1 (bs.map encB))] = some (.one (encCu c'), [.one .unk]) ∧ cuOk c' := by
  have key : Ok (Fsl01New [.one (.sl false o 1 (bs.map encB))]) (fun r => ∃ c', r = (.one (encCu c'), [.one .unk]) ∧ cuOk c') := by
    rw [msl01New]
    refine iter_ex (h := hsl01New_3) bs.length (fun i (a : Int) f => f o (bs.map encB) a (i : Int)) (fun _ _ => True) _ (by omega) ?_ ?_ _ trivial
    · intro nx a _
      exact ok_eq (r := (.one (encCu ⟨none, bs, 0, a⟩), [.one .unk])) (by simp [Rsl01New_3]) ⟨⟨none, bs, 0, a⟩, rfl, by simp [cuOk, h]⟩
    · intro nx i a hi _ hW
      by_cases h4 : (i : Int) < 4000
      · refine .inl ?_
        simp [Rsl01New_3, hi, hW, h4]
        exact ⟨_, rfl⟩
      · exact .inr (ok_eq (r := (.one (encCu ⟨none, bs, 0, a⟩), [.one .unk])) (by simp [Rsl01New_3, hi, h4]) ⟨⟨none, bs, 0, a⟩, rfl, by simp [cuOk, h]⟩)
  obtain ⟨r, h1, c', rfl, h2⟩ := key
  exact ⟨c', h1, h2⟩
/-! sl01Byte: loop.example/g00712/spec.l01Byte -/
noncomputable def Qsl01Byte : Fx := ⟨Go.Proofs.Try.f169, [.io], true, mkEnv tys_d1 [] [], fun id => bif Nat.beq id 2 then .sq [0, 1, 2, 3, 4, 5, 6, 7, 8, 9, 10, 11, 12] .stop else bif Nat.beq id 3 then .sq [0, 1, 2, 3, 4, 5, 6, 7, 8, 9] .stop else bif Nat.beq id 4 then .sq [0, 1, 2, 3, 4, 5, 6, 7, 8, 9, 10, 11, 12, 13, 14] .stop else .stop, []⟩
noncomputable def Fsl01Byte : List S → Option Res := veil Qsl01Byte.run
noncomputable def Ssl01Byte : Spec := ⟨[.io], true, Fsl01Byte⟩
theorem msl01Byte (x1 : Option Bool) (x2 : List (List C)) (x3 : Int) (x4 : Int) : Fsl01Byte [.one (.bx [.sl false x1 1 x2, .int x3, .int x4])] = (let q1 : Int → Int → Option Res := fun z1 z2 => fin true [.one (.bx [.sl false x1 1 x2, .int x3, .int x4])] [.one (.int z1)] [.one (.bx [.sl false x1 1 x2, .int z2, .int (W ((W (x4 * 6364136223846793005)) + 1442695040888963407))])]; bif decide (x3 < (x2.length : Int)) then ix x3 x2 ((x2[Int.toNat x3]?).bind fun w1 => tRo [.int .u8] w1 fun n1 => q1 (W (((BitVec.ofInt (IntKind.bits .i64) (W ((W (((BitVec.ofInt (IntKind.bits .i64) (W (((BitVec.ofInt (IntKind.bits .i64) (Int.fdiv (W ((W (x4 * 6364136223846793005)) + 1442695040888963407)) (2 ^ 33)) ^^^ BitVec.ofInt (IntKind.bits .i64) (Int.fdiv (W ((W (x4 * 6364136223846793005)) + 1442695040888963407)) (2 ^ 45))).toNat : Int))) &&& BitVec.ofInt (IntKind.bits .i64) 255).toNat : Int))) + (W (n1)))) &&& BitVec.ofInt (IntKind.bits .i64) 255).toNat : Int))) (W (x3 + 1))) else q1 (W (((BitVec.ofInt (IntKind.bits .i64) (W (((BitVec.ofInt (IntKind.bits .i64) (Int.fdiv (W ((W (x4 * 6364136223846793005)) + 1442695040888963407)) (2 ^ 33)) ^^^ BitVec.ofInt (IntKind.bits .i64) (Int.fdiv (W ((W (x4 * 6364136223846793005)) + 1442695040888963407)) (2 ^ 45))).toNat : Int))) &&& BitVec.ofInt (IntKind.bits .i64) 255).toNat : Int))) x3) := Fx.eq (by kernel_rfl)
theorem oksl01Byte : CalleeOk Go.Proofs.Try.prog 169 Ssl01Byte := Fx.ok (F := Qsl01Byte) follows (envTy_mk tys_d1_eq) (envSpec_of (specsOk_nil)) Go.Proofs.Try.func169 (by kernel_rfl) (by kernel_rfl) (by rw [show subs Qsl01Byte.code = [] by kernel_rfl]; trivial) (by kernel_rfl) (by kernel_rfl) rfl
theorem dByte (c : Cu) (hc : cuOk c) : ∃ x c', Fsl01Byte [.one (encCu c)] = some (.one (.int x), [.one (encCu c')]) ∧ cuOk c' ∧ 0 ≤ x ∧ x ≤ 255 := by
  obtain ⟨o, bs, i, h⟩ := c
  obtain ⟨h1, h2⟩ := hc
  simp only at h1 h2
  obtain ⟨k, rfl⟩ := Int.eq_ofNat_of_zero_le h1
  simp only [encCu]
  have hm := msl01Byte o (bs.map encB) (k : Int) h
  by_cases hk : k < bs.length
  · have hW : W ((k : Int) + 1) = (k : Int) + 1 := W_eq (by omega) (by omega)
    simp only [List.length_map, Int.ofNat_lt, hk, decide_true, cond_true, List.getElem?_map, Int.toNat_natCast, List.getElem?_eq_getElem hk, Option.map_some, Option.bind_some, ix_map hk, tRo, List.head?_cons, C.asInt, if_true, List.tail_cons, hW] at hm
    obtain ⟨x, hx, e⟩ := and255 (W (W (((BitVec.ofInt (IntKind.bits .i64) (W (((BitVec.ofInt (IntKind.bits .i64) (Int.fdiv (W ((W (h * 6364136223846793005)) + 1442695040888963407)) (2 ^ 33)) ^^^ BitVec.ofInt (IntKind.bits .i64) (Int.fdiv (W ((W (h * 6364136223846793005)) + 1442695040888963407)) (2 ^ 45))).toNat : Int))) &&& BitVec.ofInt (IntKind.bits .i64) 255).toNat : Int)) + W bs[k]))
    rw [e] at hm
    exact ⟨x, ⟨o, bs, (k : Int) + 1, _⟩, hm.trans (by simp; rfl), ⟨by simp only; omega, h2⟩, by omega, by omega⟩
  · simp only [List.length_map, Int.ofNat_lt, hk, decide_false, cond_false] at hm
    obtain ⟨x, hx, e⟩ := and255 (W (((BitVec.ofInt (IntKind.bits .i64) (Int.fdiv (W ((W (h * 6364136223846793005)) + 1442695040888963407)) (2 ^ 33)) ^^^ BitVec.ofInt (IntKind.bits .i64) (Int.fdiv (W ((W (h * 6364136223846793005)) + 1442695040888963407)) (2 ^ 45))).toNat : Int)))
    rw [e] at hm
    exact ⟨x, ⟨o, bs, (k : Int), _⟩, hm.trans (by simp; rfl), ⟨h1, h2⟩, by omega, by omega⟩
/-! sl01Below: loop.example/g00712/spec.l01Below -/
noncomputable def Qsl01Below : Fx := ⟨Go.Proofs.Try.f128, [.io, .ro], true, mkEnv tys_d1 [(169, Ssl01Byte)] [(169, [.cub 1])], fun _ => .stop, []⟩
noncomputable def Fsl01Below : List S → Option Res := veil Qsl01Below.run
noncomputable def Ssl01Below : Spec := ⟨[.io, .ro], true, Fsl01Below⟩
theorem msl01Below (x1 : Option Bool) (x2 : List (List C)) (x3 : Int) (x4 : Int) (x5 : Int) : Fsl01Below [.one (.bx [.sl false x1 1 x2, .int x3, .int x4]), .one (.int x5)] = bif decide (x5 ≤ 0) then fin true [.one (.bx [.sl false x1 1 x2, .int x3, .int x4]), .one (.int x5)] [.one (.int 0)] [.one (.bx [.sl false x1 1 x2, .int x3, .int x4]), .one .unk] else bif decide (x5 ≤ 256) then cOV [.cub 1] false [.int .i64] (Fsl01Byte [.one (.bx [.sl false x1 1 x2, .int x3, .int x4])]) fun o1 l1 n1 n2 n3 => if x5 = 0 then none else fin true [.one (.bx [.sl false x1 1 x2, .int x3, .int x4]), .one (.int x5)] [.one (.int (Int.tmod n3 x5))] [.one (.bx [.sl false o1 1 l1, .int n1, .int n2]), .one .unk] else cOV [.cub 1] false [.int .i64] (Fsl01Byte [.one (.bx [.sl false x1 1 x2, .int x3, .int x4])]) fun o2 l2 n4 n5 n6 => cOV [.cub 1] false [.int .i64] (Fsl01Byte [.one (.bx [.sl false o2 1 l2, .int n4, .int n5])]) fun o3 l3 n7 n8 n9 => cOV [.cub 1] false [.int .i64] (Fsl01Byte [.one (.bx [.sl false o3 1 l3, .int n7, .int n8])]) fun o4 l4 n10 n11 n12 => if x5 = 0 then none else fin true [.one (.bx [.sl false x1 1 x2, .int x3, .int x4]), .one (.int x5)] [.one (.int (Int.tmod (W ((W ((W (n6 * 65536)) + (W (n9 * 256)))) + n12)) x5))] [.one (.bx [.sl false o4 1 l4, .int n10, .int n11]), .one .unk] := Fx.eq (by kernel_rfl)
theorem oksl01Below : CalleeOk Go.Proofs.Try.prog 128 Ssl01Below := Fx.ok (F := Qsl01Below) follows (envTy_mk tys_d1_eq) (envSpec_of (specsOk_cons oksl01Byte specsOk_nil)) Go.Proofs.Try.func128 (by kernel_rfl) (by kernel_rfl) (by rw [show subs Qsl01Below.code = [] by kernel_rfl]; trivial) (by kernel_rfl) (by kernel_rfl) rfl
theorem dBelow (c : Cu) (n : Int) (hc : cuOk c) : ∃ x c', Fsl01Below [.one (encCu c), .one (.int n)] = some (.one (.int x), [.one (encCu c'), .one .unk]) ∧ cuOk c' ∧ 0 ≤ x ∧ (0 < n → x < n) := by
  have hm := msl01Below c.o (c.bs.map encB) c.i c.h n
  by_cases h0 : n ≤ 0
  · exact ⟨0, c, hm.trans (by simp [h0]), hc, by omega, by omega⟩
  · obtain ⟨x, c1, e1, hc1, hx0, hx1⟩ := dByte c hc
    have hn : ¬ n = 0 := by omega
    by_cases h1 : n ≤ 256
    · exact ⟨x.tmod n, c1, hm.trans (by simp [h0, h1, hn, e1]), hc1, Int.tmod_nonneg _ hx0, fun h => Int.tmod_lt_of_pos _ h⟩
    · obtain ⟨y, c2, e2, hc2, hy0, hy1⟩ := dByte c1 hc1
      obtain ⟨z, c3, e3, hc3, hz0, hz1⟩ := dByte c2 hc2
      have w1 : W (x * 65536) = x * 65536 := W_eq (by omega) (by omega)
      have w2 : W (y * 256) = y * 256 := W_eq (by omega) (by omega)
      have w3 : W (x * 65536 + y * 256) = x * 65536 + y * 256 := W_eq (by omega) (by omega)
      have w4 : W (x * 65536 + y * 256 + z) = x * 65536 + y * 256 + z := W_eq (by omega) (by omega)
      exact ⟨(x * 65536 + y * 256 + z).tmod n, c3, hm.trans (by simp [h0, h1, hn, e1, e2, e3, w1, w2, w3, w4]), hc3, Int.tmod_nonneg _ (by omega), fun h => Int.tmod_lt_of_pos _ h⟩
theorem ok_below {c : Cu} {n : Int} {k : Option Bool → List (List C) → Int → Int → Int → Option Res} {Q : Res → Prop} (hc : cuOk c) (h : ∀ x c', cuOk c' → 0 ≤ x → (0 < n → x < n) → Ok (k c'.o (c'.bs.map encB) c'.i c'.h x) Q) :
    Ok (cOV [.cub 1] false [.int .i64] (Fsl01Below [.one (.bx [.sl false c.o 1 (c.bs.map encB), .int c.i, .int c.h]), .one (.int n)]) k) Q := by
  obtain ⟨x, c', e, h1, h2, h3⟩ := dBelow c n hc
  exact ok_of (by simp [e]) (h x c' h1 h2 h3)
/-! sl01Once: loop.example/g00712/spec.l01Once -/
noncomputable def Qsl01Once : Fx := ⟨Go.Proofs.Try.f100, [.io, .ro], true, mkEnv tys_d1 [(128, Ssl01Below)] [(128, [.cub 1])], fun _ => .stop, []⟩
noncomputable def Fsl01Once : List S → Option Res := veil Qsl01Once.run
noncomputable def Ssl01Once : Spec := ⟨[.io, .ro], true, Fsl01Once⟩
theorem msl01Once (x1 : Option Bool) (x2 : List (List C)) (x3 : Int) (x4 : Int) (x5 : Int) : Fsl01Once [.one (.bx [.sl false x1 1 x2, .int x3, .int x4]), .one (.int x5)] = cOV [.cub 1] false [.int .i64] (Fsl01Below [.one (.bx [.sl false x1 1 x2, .int x3, .int x4]), .one (.int x5)]) fun o1 l1 n1 n2 n3 => fin true [.one (.bx [.sl false x1 1 x2, .int x3, .int x4]), .one (.int x5)] [.one (.bool (n3 == 0))] [.one (.bx [.sl false o1 1 l1, .int n1, .int n2]), .one .unk] := Fx.eq (by kernel_rfl)
theorem oksl01Once : CalleeOk Go.Proofs.Try.prog 100 Ssl01Once := Fx.ok (F := Qsl01Once) follows (envTy_mk tys_d1_eq) (envSpec_of (specsOk_cons oksl01Below specsOk_nil)) Go.Proofs.Try.func100 (by kernel_rfl) (by kernel_rfl) (by rw [show subs Qsl01Once.code = [] by kernel_rfl]; trivial) (by kernel_rfl) (by kernel_rfl) rfl
theorem dOnce (c : Cu) (n : Int) (hc : cuOk c) : ∃ b c', Fsl01Once [.one (encCu c), .one (.int n)] = some (.one (.bool b), [.one (encCu c'), .one .unk]) ∧ cuOk c' := by
  have hm := msl01Once c.o (c.bs.map encB) c.i c.h n
  obtain ⟨x, c1, e1, hc1, _⟩ := dBelow c n hc
  exact ⟨x == 0, c1, hm.trans (by simp [e1]), hc1⟩
theorem ok_once {c : Cu} {n : Int} {k : Option Bool → List (List C) → Int → Int → Bool → Option Res} {Q : Res → Prop} (hc : cuOk c) (h : ∀ b c', cuOk c' → Ok (k c'.o (c'.bs.map encB) c'.i c'.h b) Q) :
    Ok (cOV [.cub 1] false [.bool] (Fsl01Once [.one (.bx [.sl false c.o 1 (c.bs.map encB), .int c.i, .int c.h]), .one (.int n)]) k) Q := by
  obtain ⟨x, c', e, h1⟩ := dOnce c n hc
  exact ok_of (by simp [e]) (h x c' h1)
/-! sl01PickInt: loop.example/g00712/spec.l01PickInt -/
noncomputable def Qsl01PickInt : Fx := ⟨Go.Proofs.Try.f149, [.io, .tk], true, mkEnv tys_d1 [(128, Ssl01Below)] [(128, [.cub 1])], fun _ => .stop, []⟩
noncomputable def Fsl01PickInt : List S → Option Res := veil Qsl01PickInt.run
noncomputable def Ssl01PickInt : Spec := ⟨[.io, .tk], true, Fsl01PickInt⟩
theorem msl01PickInt (x1 : Option Bool) (x2 : List (List C)) (x3 : Int) (x4 : Int) (x5 : Option Bool) (x6 : List (List C)) : Fsl01PickInt [.one (.bx [.sl false x1 1 x2, .int x3, .int x4]), .one (.sl true x5 1 x6)] = cOV [.cub 1] false [.int .i64] (Fsl01Below [.one (.bx [.sl false x1 1 x2, .int x3, .int x4]), .one (.int (x6.length : Int))]) fun o1 l1 n1 n2 n3 => ix n3 x6 ((x6[Int.toNat n3]?).bind fun w1 => tOwn [.int .i64] w1 fun n4 => fin true [.one (.bx [.sl false x1 1 x2, .int x3, .int x4]), .one (.sl true x5 1 x6)] [.one (.int n4)] [.one (.bx [.sl false o1 1 l1, .int n1, .int n2]), .one .unk]) := Fx.eq (by kernel_rfl)
theorem oksl01PickInt : CalleeOk Go.Proofs.Try.prog 149 Ssl01PickInt := Fx.ok (F := Qsl01PickInt) follows (envTy_mk tys_d1_eq) (envSpec_of (specsOk_cons oksl01Below specsOk_nil)) Go.Proofs.Try.func149 (by kernel_rfl) (by kernel_rfl) (by rw [show subs Qsl01PickInt.code = [] by kernel_rfl]; trivial) (by kernel_rfl) (by kernel_rfl) rfl
theorem dPick (c : Cu) (nl : Option Bool) (l : List Int) (hc : cuOk c) (hl : l ≠ []) : ∃ x c', Fsl01PickInt [.one (encCu c), .one (.sl true nl 1 (l.map encInt))] = some (.one (.int x), [.one (encCu c'), .one .unk]) ∧ cuOk c' ∧ x ∈ l := by
  have hm := msl01PickInt c.o (c.bs.map encB) c.i c.h nl (l.map encInt)
  obtain ⟨x, c1, e1, hc1, h0, h1⟩ := dBelow c (l.length : Int) hc
  have hp : 0 < l.length := List.length_pos_iff.2 hl
  obtain ⟨k, rfl⟩ := Int.eq_ofNat_of_zero_le h0
  have hk : k < l.length := by have := h1 (by omega); omega
  exact ⟨l[k], c1, hm.trans (by simp [e1, hk]), hc1, List.getElem_mem hk⟩
theorem ok_pick {c : Cu} {nl : Option Bool} {l : List Int} {es : List (List C)} {k : Option Bool → List (List C) → Int → Int → Int → Option Res} {Q : Res → Prop} (hc : cuOk c) (he : es = l.map encInt) (hl : l ≠ []) (h : ∀ x c', cuOk c' → x ∈ l → Ok (k c'.o (c'.bs.map encB) c'.i c'.h x) Q) :
    Ok (cOV [.cub 1] false [.int .i64] (Fsl01PickInt [.one (.bx [.sl false c.o 1 (c.bs.map encB), .int c.i, .int c.h]), .one (.sl true nl 1 es)]) k) Q := by
  subst he
  obtain ⟨x, c', e, h1, h2⟩ := dPick c nl l hc hl
  exact ok_of (by simp [e]) (h x c' h1 h2)
/-! sl01DrawValue: loop.example/g00712/spec.l01DrawValue -/
noncomputable def Qsl01DrawValue : Fx := ⟨Go.Proofs.Try.f190, [.io], true, mkEnv tys_d1 [(128, Ssl01Below), (149, Ssl01PickInt)] [(128, [.cub 1]), (149, [.cub 1])], fun _ => .stop, []⟩
noncomputable def Fsl01DrawValue : List S → Option Res := veil Qsl01DrawValue.run
noncomputable def Ssl01DrawValue : Spec := ⟨[.io], true, Fsl01DrawValue⟩
theorem msl01DrawValue (x1 : Option Bool) (x2 : List (List C)) (x3 : Int) (x4 : Int) : Fsl01DrawValue [.one (.bx [.sl false x1 1 x2, .int x3, .int x4])] = cOV [.cub 1] false [.int .i64] (Fsl01Below [.one (.bx [.sl false x1 1 x2, .int x3, .int x4]), .one (.int 50)]) fun o1 l1 n1 n2 n3 => cOV [.cub 1] false [.int .i64] (Fsl01Below [.one (.bx [.sl false o1 1 l1, .int n1, .int n2]), .one (.int 50)]) fun o2 l2 n4 n5 n6 => cOV [.cub 1] false [.int .i64] (Fsl01PickInt [.one (.bx [.sl false o2 1 l2, .int n4, .int n5]), .one (.sl true (some false) 1 [[.int 0], [.int 1], [.int 2], [.int (-1)], [.int n3], [.int (W (0 - n6))], [.int 1000000], [.int (-1000000)]])]) fun o3 l3 n7 n8 n9 => fin true [.one (.bx [.sl false x1 1 x2, .int x3, .int x4])] [.one (.int n9)] [.one (.bx [.sl false o3 1 l3, .int n7, .int n8])] := Fx.eq (by kernel_rfl)
theorem oksl01DrawValue : CalleeOk Go.Proofs.Try.prog 190 Ssl01DrawValue := Fx.ok (F := Qsl01DrawValue) follows (envTy_mk tys_d1_eq) (envSpec_of (specsOk_cons oksl01Below (specsOk_cons oksl01PickInt specsOk_nil))) Go.Proofs.Try.func190 (by kernel_rfl) (by kernel_rfl) (by rw [show subs Qsl01DrawValue.code = [] by kernel_rfl]; trivial) (by kernel_rfl) (by kernel_rfl) rfl
theorem dValue (c : Cu) (hc : cuOk c) : ∃ x c', Fsl01DrawValue [.one (encCu c)] = some (.one (.int x), [.one (encCu c')]) ∧ cuOk c' ∧ -1000000 ≤ x ∧ x ≤ 1000000 := by
  have key : Ok (Fsl01DrawValue [.one (encCu c)]) (fun r => ∃ x c', r = (.one (.int x), [.one (encCu c')]) ∧ cuOk c' ∧ -1000000 ≤ x ∧ x ≤ 1000000) := by
    rw [msl01DrawValue]
    refine ok_below hc fun x c1 hc1 hx hx' => ok_below hc1 fun y c2 hc2 hy hy' => ok_pick (l := [0, 1, 2, -1, x, W (0 - y), 1000000, -1000000]) hc2 rfl (by simp) fun z c3 hc3 hz => ?_
    have w : W (0 - y) = -y := by have := hy' (by omega); rw [W_eq (by omega) (by omega)]; omega
    have := hx' (by omega)
    have := hy' (by omega)
    have w' : W (-y) = -y := W_eq (by omega) (by omega)
    simp [w, w'] at hz
    exact ok_eq (r := (.one (.int z), [.one (encCu c3)])) (by simp) ⟨z, c3, rfl, hc3, by omega, by omega⟩
  obtain ⟨r, h1, x, c', rfl, h2⟩ := key
  exact ⟨x, c', h1, h2⟩
theorem ok_value {c : Cu} {k : Option Bool → List (List C) → Int → Int → Int → Option Res} {Q : Res → Prop} (hc : cuOk c) (h : ∀ x c', cuOk c' → -1000000 ≤ x → x ≤ 1000000 → Ok (k c'.o (c'.bs.map encB) c'.i c'.h x) Q) :
    Ok (cOV [.cub 1] false [.int .i64] (Fsl01DrawValue [.one (.bx [.sl false c.o 1 (c.bs.map encB), .int c.i, .int c.h])]) k) Q := by
  obtain ⟨x, c', e, h1, h2, h3⟩ := dValue c hc
  exact ok_of (by simp [e]) (h x c' h1 h2 h3)
/-! sl01DrawMem: loop.example/g00712/spec.l01DrawMem -/
@[reducible] def hsl01DrawMem_6 : Sh := ⟨[.one (.o (.pl 0 0 [])), .one (.o (.pl 1 0 [])), .one (.o (.pl 3 0 [])), .one (.o (.i .i64)), .one (.o (.i .i64))], [(false, [.o (.sl false 1), .o (.i .i64), .o (.i .i64)]), (false, [.o (.sl true 1)]), (true, [.o .u]), (false, [.o (.sl true 1)])]⟩
@[reducible] def xsl01DrawMem_6 : List (Ex × Sh) := [(.exit 0, ⟨[.one (.o (.pl 0 0 [])), .one (.o (.pl 1 0 [])), .one (.o (.pl 3 0 [])), .one (.o (.i .i64))], [(false, [.o (.sl false 1), .o (.i .i64), .o (.i .i64)]), (false, [.o (.sl true 1)]), (true, [.o .u]), (false, [.o (.sl true 1)])]⟩)]
noncomputable def Rsl01DrawMem_6 : KC xsl01DrawMem_6 (hsl01DrawMem_6.K → hsl01DrawMem_6.K) := fun k0 nx v1 v2 v3 v4 v5 v6 v7 v8 v9 v10 => bif decide (v2 < v1) then both (cOV [.cub 1] false [.int .i64] (Fsl01DrawValue [.one (.bx [.sl false v3 1 v4, .int v5, .int v6])]) fun o2 l2 n4 n5 n6 => if (v10.length + 1) * 8 ≤ LIM then nx v1 (W (v2 + 1)) o2 l2 n4 n5 v7 v8 none (v10 ++ [[.int n6]]) else none) (cOV [.cub 1] false [.int .i64] (Fsl01DrawValue [.one (.bx [.sl false v3 1 v4, .int v5, .int v6])]) fun o2 l2 n4 n5 n6 => dup (if (v10.length + 1) * 8 ≤ LIM then nx v1 (W (v2 + 1)) o2 l2 n4 n5 v7 v8 none (v10 ++ [[.int n6]]) else none)) else k0 v1 v3 v4 v5 v6 v7 v8 v9 v10
noncomputable def Lsl01DrawMem_6 : Lp := ⟨6, [0, 4, 5, 6, 7], [0, 4, 5, 6], 4, 45, hsl01DrawMem_6, xsl01DrawMem_6, Rsl01DrawMem_6⟩
noncomputable def Qsl01DrawMem : Fx := ⟨Go.Proofs.Try.f205, [.io, .ro], true, mkEnv tys_d1 [(100, Ssl01Once), (128, Ssl01Below), (149, Ssl01PickInt), (190, Ssl01DrawValue)] [(100, [.cub 1]), (128, [.cub 1]), (149, [.cub 1]), (190, [.cub 1])], fun id => bif Nat.beq id 8 then .ac [1] (.sq [0, 2] (.alt 1 (.sq [3, 4, 5, 6, 7] .stop) (.sq [3] (.alt 1 (.sq [4, 5, 6, 7] .stop) (.sq [4, 1, 5, 6, 7] .stop))))) else bif Nat.beq id 10 then .ac [1] (.sq [0, 2, 3, 5] (.alt 1 (.alt 4 (.sq [6, 7, 8, 9] .stop) (.sq [6, 4, 7, 8, 9] .stop)) (.alt 4 (.alt 1 (.sq [6, 7, 8, 9] .stop) (.sq [6] (.alt 1 (.sq [7, 8, 9] .stop) (.sq [7, 1, 8, 9] .stop)))) (.sq [6] (.alt 1 (.sq [4, 7, 8, 9] .stop) (.sq [4] (.alt 1 (.sq [7, 8, 9] .stop) (.sq [7, 1, 8, 9] .stop)))))))) else .stop, [Lsl01DrawMem_6]⟩
noncomputable def Fsl01DrawMem : List S → Option Res := veil Qsl01DrawMem.run
noncomputable def Ssl01DrawMem : Spec := ⟨[.io, .ro], true, Fsl01DrawMem⟩
theorem msl01DrawMem (x1 : Option Bool) (x2 : List (List C)) (x3 : Int) (x4 : Int) (x5 : Option Bool) (x6 : List (List C)) : Fsl01DrawMem [.one (.bx [.sl false x1 1 x2, .int x3, .int x4]), .one (.sl false x5 1 x6)] = cOV [.cub 1] false [.int .i64] (Fsl01Below [.one (.bx [.sl false x1 1 x2, .int x3, .int x4]), .one (.int 8)]) fun o1 l1 n1 n2 n3 => (let q1 : Int → (Option Bool) → (List (List C)) → Int → Int → Option Res := fun z1 z2 z3 z4 z5 => iterC (Rsl01DrawMem_6 (fun y1 y2 y3 y4 y5 y6 y7 y8 y9 => (let q2 : (List (List C)) → (Option Bool) → (List (List C)) → Int → Int → Option Res := fun z6 z7 z8 z9 z10 => fin true [.one (.bx [.sl false x1 1 x2, .int x3, .int x4]), .one (.sl false x5 1 x6)] [.agg [.sl true none 1 z6]] [.one (.bx [.sl false z7 1 z8, .int z9, .int z10]), .one .unk]; cOV [.cub 1] false [.bool] (Fsl01Once [.one (.bx [.sl false y2 1 y3, .int y4, .int y5]), .one (.int 25)]) fun o2 l2 n4 n5 b1 => bif b1 then bif decide (y1 > 0) then both (dup (cOV [.cub 1] false [.int .i64] (Fsl01Below [.one (.bx [.sl false o2 1 l2, .int n4, .int n5]), .one (.int y1)]) fun o3 l3 n6 n7 n8 => cOV [.cub 1] false [.int .i64] (Fsl01PickInt [.one (.bx [.sl false o3 1 l3, .int n6, .int n7]), .one (.sl true (some false) 1 [[.int 1000001], [.int (-1000001)]])]) fun o4 l4 n9 n10 n11 => ix n8 y9 (oc (.int .i64) y9 (Int.toNat n8) 0 ((let e1 : List (List C) := md y9 (Int.toNat n8) 0 (.int n11); q2 e1 o4 l4 n9 n10))))) (both (cOV [.cub 1] false [.int .i64] (Fsl01Below [.one (.bx [.sl false o2 1 l2, .int n4, .int n5]), .one (.int y1)]) fun o3 l3 n6 n7 n8 => both (cOV [.cub 1] false [.int .i64] (Fsl01PickInt [.one (.bx [.sl false o3 1 l3, .int n6, .int n7]), .one (.sl true (some false) 1 [[.int 1000001], [.int (-1000001)]])]) fun o4 l4 n9 n10 n11 => ix n8 y9 (oc (.int .i64) y9 (Int.toNat n8) 0 ((let e1 : List (List C) := md y9 (Int.toNat n8) 0 (.int n11); q2 e1 o4 l4 n9 n10)))) (dup (cOV [.cub 1] false [.int .i64] (Fsl01PickInt [.one (.bx [.sl false o3 1 l3, .int n6, .int n7]), .one (.sl true (some false) 1 [[.int 1000001], [.int (-1000001)]])]) fun o4 l4 n9 n10 n11 => ix n8 y9 (oc (.int .i64) y9 (Int.toNat n8) 0 ((let e1 : List (List C) := md y9 (Int.toNat n8) 0 (.int n11); q2 e1 o4 l4 n9 n10)))))) (both (cOV [.cub 1] false [.int .i64] (Fsl01Below [.one (.bx [.sl false o2 1 l2, .int n4, .int n5]), .one (.int y1)]) fun o3 l3 n6 n7 n8 => cOV [.cub 1] false [.int .i64] (Fsl01PickInt [.one (.bx [.sl false o3 1 l3, .int n6, .int n7]), .one (.sl true (some false) 1 [[.int 1000001], [.int (-1000001)]])]) fun o4 l4 n9 n10 n11 => ix n8 y9 (oc (.int .i64) y9 (Int.toNat n8) 0 ((let e1 : List (List C) := md y9 (Int.toNat n8) 0 (.int n11); q2 e1 o4 l4 n9 n10)))) (cOV [.cub 1] false [.int .i64] (Fsl01Below [.one (.bx [.sl false o2 1 l2, .int n4, .int n5]), .one (.int y1)]) fun o3 l3 n6 n7 n8 => dup (cOV [.cub 1] false [.int .i64] (Fsl01PickInt [.one (.bx [.sl false o3 1 l3, .int n6, .int n7]), .one (.sl true (some false) 1 [[.int 1000001], [.int (-1000001)]])]) fun o4 l4 n9 n10 n11 => ix n8 y9 (oc (.int .i64) y9 (Int.toNat n8) 0 ((let e1 : List (List C) := md y9 (Int.toNat n8) 0 (.int n11); q2 e1 o4 l4 n9 n10))))))) else q2 y9 o2 l2 n4 n5 else q2 y9 o2 l2 n4 n5))) FUEL z1 0 z2 z3 z4 z5 (some true) [] none []; cOV [.cub 1] false [.bool] (Fsl01Once [.one (.bx [.sl false o1 1 l1, .int n1, .int n2]), .one (.int 12)]) fun o5 l5 n12 n13 b2 => bif b2 then cOV [.cub 1] false [.int .i64] (Fsl01PickInt [.one (.bx [.sl false o5 1 l5, .int n12, .int n13]), .one (.sl true (some false) 1 [[.int 0], [.int 16], [.int 17]])]) fun o6 l6 n14 n15 n16 => q1 n16 o6 l6 n14 n15 else q1 (W (1 + n3)) o5 l5 n12 n13) := Fx.eq (by kernel_rfl)
theorem stsl01DrawMem_6 : Lsl01DrawMem_6.Step Qsl01DrawMem.E Qsl01DrawMem.dr Qsl01DrawMem.lp ((findLoop 6 Qsl01DrawMem.code).getD .skip) := fun k nx v => by kernel_rfl
theorem oksl01DrawMem : CalleeOk Go.Proofs.Try.prog 205 Ssl01DrawMem := Fx.ok (F := Qsl01DrawMem) follows (envTy_mk tys_d1_eq) (envSpec_of (specsOk_cons oksl01Once (specsOk_cons oksl01Below (specsOk_cons oksl01PickInt (specsOk_cons oksl01DrawValue specsOk_nil))))) Go.Proofs.Try.func205 (by kernel_rfl) (by kernel_rfl) (by
  rw [show subs Qsl01DrawMem.code = [(findLoop 6 Qsl01DrawMem.code).getD .skip] by kernel_rfl]
  exact ⟨stepAt_some (by kernel_rfl) stsl01DrawMem_6, trivial⟩) (by kernel_rfl) (by kernel_rfl) rfl
theorem lpDrawMem (n : Nat) (hn : n ≤ 17) (x : Option Bool) (e : List (List C)) (Q : Res → Prop) (K) (hK : ∀ (c' : Cu) (l : List Int), cuOk c' → l.length = n → Ok (K (n : Int) c'.o (c'.bs.map encB) c'.i c'.h x e none (l.map encInt)) Q) (c : Cu) (hc : cuOk c) :
    Ok (iterC (Rsl01DrawMem_6 K) FUEL (n : Int) 0 c.o (c.bs.map encB) c.i c.h x e none []) Q := by
  refine iter_ex (h := hsl01DrawMem_6) n (fun i (a : Cu × List Int) f => f (n : Int) (i : Int) a.1.o (a.1.bs.map encB) a.1.i a.1.h x e none (a.2.map encInt)) (fun i a => cuOk a.1 ∧ a.2.length = i) Q (by omega) ?_ ?_ (c, []) ⟨hc, rfl⟩
  · intro nx a ⟨h1, h2⟩
    exact ok_of (by simp [Rsl01DrawMem_6]) (hK a.1 a.2 h1 h2)
  · intro nx i a hi ⟨h1, h2⟩ hW
    obtain ⟨v, c1, e1, hc1, hv⟩ := dValue a.1 h1
    have hL : (a.2.length + 1) * 8 ≤ LIM := by unfold LIM; omega
    refine .inl ⟨(c1, a.2 ++ [v]), ⟨hc1, by simp [h2]⟩, ?_⟩
    simp [Rsl01DrawMem_6, hi, e1, hL, hW]
theorem dMem (c : Cu) (nl : Option Bool) (es : List (List C)) (hc : cuOk c) : ∃ (l : List Int) (c' : Cu), Fsl01DrawMem [.one (encCu c), .one (.sl false nl 1 es)] = some (.agg [.sl true none 1 (l.map encInt)], [.one (encCu c'), .one .unk]) ∧ cuOk c' ∧ l.length ≤ 17 := by
  have key : Ok (Fsl01DrawMem [.one (encCu c), .one (.sl false nl 1 es)]) (fun r => ∃ (l : List Int) (c' : Cu), r = (.agg [.sl true none 1 (l.map encInt)], [.one (encCu c'), .one .unk]) ∧ cuOk c' ∧ l.length ≤ 17) := by
    rw [msl01DrawMem]
    refine ok_below hc fun x c1 hc1 hx hx' => ?_
    have hx' := hx' (by omega)
    extract_lets -underBinder q1
    have hq : ∀ (n : Nat) (c : Cu), n ≤ 17 → cuOk c → Ok (q1 (n : Int) c.o (c.bs.map encB) c.i c.h) (fun r => ∃ (l : List Int) (c' : Cu), r = (.agg [.sl true none 1 (l.map encInt)], [.one (encCu c'), .one .unk]) ∧ cuOk c' ∧ l.length ≤ 17) := by
      intro n c hn hc
      refine lpDrawMem n hn _ _ _ _ (fun c2 l hc2 hl => ?_) c hc
      extract_lets -underBinder q2
      refine ok_once hc2 fun b c3 hc3 => ?_
      have hq2' : ∀ (l : List Int) (c : Cu), l.length = n → cuOk c → Ok (q2 (l.map encInt) c.o (c.bs.map encB) c.i c.h) (fun r => ∃ (l : List Int) (c' : Cu), r = (.agg [.sl true none 1 (l.map encInt)], [.one (encCu c'), .one .unk]) ∧ cuOk c' ∧ l.length ≤ 17) := by
        intro l c hl hc
        exact ok_eq (r := (.agg [.sl true none 1 (l.map encInt)], [.one (encCu c), .one .unk])) (by simp [q2]) ⟨l, c, rfl, hc, by omega⟩
      clear_value q2
      cases b
      · exact hq2' l c3 hl hc3
      · by_cases hn0 : 0 < n
        · obtain ⟨i, c4, e4, hc4, hi0, hi1⟩ := dBelow c3 (n : Int) hc3
          obtain ⟨v, c5, e5, hc5, _⟩ := dPick c4 (some false) [1000001, -1000001] hc4 (by simp)
          obtain ⟨k, rfl⟩ := Int.eq_ofNat_of_zero_le hi0
          have hk : k < l.length := by have := hi1 (by omega); omega
          simp only [List.map_cons, List.map_nil] at e5
          exact ok_of (by simp [-List.map_set, hn0, e4, e5, hk]) (hq2' (l.set k v) c5 (by simpa using hl) hc5)
        · exact ok_of (by simp [hn0]) (hq2' l c3 hl hc3)
    clear_value q1
    refine ok_once hc1 fun b c2 hc2 => ?_
    cases b
    · obtain ⟨k, rfl⟩ := Int.eq_ofNat_of_zero_le hx
      have w : W (1 + (k : Int)) = ((1 + k : Nat) : Int) := by rw [W_eq (by omega) (by omega)]; omega
      exact ok_of (by simp only [cond_false, w]) (hq (1 + k) c2 (by omega) hc2)
    · refine ok_pick (l := [0, 16, 17]) hc2 rfl (by simp) fun z c3 hc3 hz => ?_
      simp at hz
      rcases hz with rfl | rfl | rfl
      · exact hq 0 c3 (by omega) hc3
      · exact hq 16 c3 (by omega) hc3
      · exact hq 17 c3 (by omega) hc3
  obtain ⟨r, h1, x, c', rfl, h2⟩ := key
  exact ⟨x, c', h1, h2⟩
end Go.Proofs.Gh.Gm
set_option linter.unusedVariables false
set_option linter.unusedSimpArgs false
set_option maxRecDepth 100000
set_option maxHeartbeats 2000000
namespace Go.Proofs.Gh.Gm
def tys_b1 : List (Nat × TI) := [(3, ⟨false, 8, [.int .i64], [.int 0], .scalar, false, none⟩),
  (4, ⟨false, 1, [.bool], [.bool false], .scalar, false, none⟩),
  (5, ⟨false, 1, [.int .u8], [.v (.int .u8 0)], .scalar, false, none⟩),
  (38, ⟨false, 24, [.sl 1], [.sl true (some true) 1 []], .slice 5, false, none⟩)]
theorem tys_b1_eq : tys_b1.map (fun x => tiOf Go.Proofs.Try.prog x.1 x.2.cks) = tys_b1.map fun x => some x.2 := by kernel_rfl
/-! sl01Size: loop.example/g00712/spec.l01Size -/
noncomputable def Qsl01Size : Fx := ⟨Go.Proofs.Try.f99, [.ro, .ro], false, mkEnv tys_b1 [] [], fun _ => .stop, []⟩
noncomputable def Fsl01Size : List S → Option Res := veil Qsl01Size.run
noncomputable def Ssl01Size : Spec := ⟨[.ro, .ro], false, Fsl01Size⟩
theorem msl01Size (x1 : Option Bool) (x2 : List (List C)) (x3 : Int) : Fsl01Size [.one (.sl false x1 1 x2), .one (.int x3)] = bif decide (W (2 + (W (Int.tdiv (x2.length : Int) 16))) > x3) then fr false 2 [.one (.int x3)] else fr false 2 [.one (.int (W (2 + (W (Int.tdiv (x2.length : Int) 16)))))] := Fx.eq (by kernel_rfl)
theorem oksl01Size : CalleeOk Go.Proofs.Try.prog 99 Ssl01Size := Fx.ok (F := Qsl01Size) follows (envTy_mk tys_b1_eq) (envSpec_of (specsOk_nil)) Go.Proofs.Try.func99 (by kernel_rfl) (by kernel_rfl) (by rw [show subs Qsl01Size.code = [] by kernel_rfl]; trivial) (by kernel_rfl) (by kernel_rfl) rfl
theorem dSize (o : Option Bool) (bs : List Int) (m : Int) (h : bs.length ≤ 1099511627776) (hm : 2 ≤ m) : ∃ n, Fsl01Size [.one (.sl false o 1 (bs.map encB)), .one (.int m)] = some (.one (.int n), [.one .unk, .one .unk]) ∧ 2 ≤ n ∧ n ≤ m := by
  have h1 := msl01Size o (bs.map encB) m
  obtain ⟨k, hk⟩ : ∃ k : Nat, Int.tdiv (bs.length : Int) 16 = (k : Int) ∧ k ≤ bs.length := ⟨bs.length / 16, by rw [show (16 : Int) = ((16 : Nat) : Int) from rfl, ← Int.ofNat_tdiv], Nat.div_le_self _ _⟩
  have w1 : W (k : Int) = (k : Int) := W_eq (by omega) (by omega)
  have w2 : W (2 + (k : Int)) = 2 + (k : Int) := W_eq (by omega) (by omega)
  by_cases hg : 2 + (k : Int) > m
  · exact ⟨m, h1.trans (by simp [hk.1, w1, w2, hg]), hm, by omega⟩
  · exact ⟨2 + k, h1.trans (by simp [hk.1, w1, w2, hg]), by omega, by omega⟩
/-! wbig: loop.example/g00712/laws.big -/
noncomputable def Qwbig : Fx := ⟨Go.Proofs.Try.f27, [.ro], false, mkEnv tys_b1 [] [], fun _ => .stop, []⟩
noncomputable def Fwbig : List S → Option Res := veil Qwbig.run
noncomputable def Swbig : Spec := ⟨[.ro], false, Fwbig⟩
theorem mwbig (x1 : Option Bool) (x2 : List (List C)) : Fwbig [.one (.sl false x1 1 x2)] = fr false 1 [.one (.bool (decide ((x2.length : Int) > 1048576)))] := Fx.eq (by kernel_rfl)
theorem okwbig : CalleeOk Go.Proofs.Try.prog 27 Swbig := Fx.ok (F := Qwbig) follows (envTy_mk tys_b1_eq) (envSpec_of (specsOk_nil)) Go.Proofs.Try.func27 (by kernel_rfl) (by kernel_rfl) (by rw [show subs Qwbig.code = [] by kernel_rfl]; trivial) (by kernel_rfl) (by kernel_rfl) rfl
theorem Fwbig_at (o : Option Bool) (bs : List Int) : Fwbig [S.one (C.sl false o 1 (bs.map encB))] = some (S.one (C.bool (decide ((bs.length : Int) > 1048576))), [S.one C.unk]) := by
  simp [mwbig]
/-! wat: loop.example/g00712/laws.at -/
noncomputable def Qwat : Fx := ⟨Go.Proofs.Try.f34, [.ro, .ro], false, mkEnv tys_b1 [] [], fun _ => .stop, []⟩
noncomputable def Fwat : List S → Option Res := veil Qwat.run
noncomputable def Swat : Spec := ⟨[.ro, .ro], false, Fwat⟩
theorem mwat (x1 : Option Bool) (x2 : List (List C)) (x3 : Int) : Fwat [.one (.sl false x1 1 x2), .one (.int x3)] = bif decide (x3 < (x2.length : Int)) then ix x3 x2 ((x2[Int.toNat x3]?).bind fun w1 => tRo [.int .u8] w1 fun n1 => fr false 2 [.one (.int (W (n1)))]) else fr false 2 [.one (.int (Int.tmod (W ((W (x3 * 13)) + (W ((x2.length : Int) * 5)))) 256))] := Fx.eq (by kernel_rfl)
theorem okwat : CalleeOk Go.Proofs.Try.prog 34 Swat := Fx.ok (F := Qwat) follows (envTy_mk tys_b1_eq) (envSpec_of (specsOk_nil)) Go.Proofs.Try.func34 (by kernel_rfl) (by kernel_rfl) (by rw [show subs Qwat.code = [] by kernel_rfl]; trivial) (by kernel_rfl) (by kernel_rfl) rfl
end Go.Proofs.Gh.Gm
set_option linter.unusedVariables false
set_option linter.unusedSimpArgs false
set_option maxRecDepth 100000
set_option maxHeartbeats 2000000
namespace Go.Proofs.Gh.Gm
def tys_y1 : List (Nat × TI) := [(3, ⟨false, 8, [.int .i64], [.int 0], .scalar, false, none⟩),
  (4, ⟨false, 1, [.bool], [.bool false], .scalar, false, none⟩),
  (5, ⟨false, 1, [.int .u8], [.v (.int .u8 0)], .scalar, false, none⟩),
  (38, ⟨false, 24, [.sl 1], [.sl true (some true) 1 []], .slice 5, false, none⟩),
  (104, ⟨true, 24, [.int .i64, .int .i64, .int .i64], [.int 0, .int 0, .int 0], .struct [(0, 1, false), (1, 1, false), (2, 1, false)], true, none⟩)]
theorem tys_y1_eq : tys_y1.map (fun x => tiOf Go.Proofs.Try.prog x.1 x.2.cks) = tys_y1.map fun x => some x.2 := by kernel_rfl
structure OpR where
  k : Int
  t : Int
  x : Int
deriving DecidableEq
abbrev encOp (c : OpR) : List C := [.int c.k, .int c.t, .int c.x]
@[simp] theorem encOp_free (l : List OpR) : rowsFree (l.map encOp) = true := rowsFree_map fun _ _ => rfl
@[simp] theorem encOp_freeze (l : List OpR) : freezeRows (l.map encOp) = l.map encOp := freezeRows_map fun _ _ => rfl
@[simp] theorem encB_free (l : List Int) : rowsFree (l.map encB) = true := rowsFree_map fun _ _ => rfl
@[simp] theorem encB_freeze (l : List Int) : freezeRows (l.map encB) = l.map encB := freezeRows_map fun _ _ => rfl
def opOk (o : OpR) : Bool := inB o.k 0 6 && (inB o.t 0 4 && (!(o.k == 0 && o.t != 0) && (bif inB o.k 1 3 then inB o.x 1 60 else o.x == 0)))
def bOk (l : List Int) : Prop := ∀ x ∈ l, 0 ≤ x ∧ x ≤ 255
theorem bOk_get {l : List Int} (h : bOk l) {i : Nat} (hi : i < l.length) : 0 ≤ l[i] ∧ l[i] ≤ 255 := h _ (List.getElem_mem hi)
theorem bOk_take {l : List Int} (h : bOk l) (n : Nat) : bOk (l.take n) := fun x hx => h x (List.mem_of_mem_take hx)
theorem bOk_drop {l : List Int} (h : bOk l) (n : Nat) : bOk (l.drop n) := fun x hx => h x (List.mem_of_mem_drop hx)
theorem bOk_app {l r : List Int} (h : bOk l) (h' : bOk r) : bOk (l ++ r) := fun x hx => (List.mem_append.1 hx).elim (h x) (h' x)
theorem B8_range (n : Int) : 0 ≤ B8 n ∧ B8 n ≤ 255 := by rw [B8_mod]; omega
theorem tdiv5 {n : Int} (h : 0 ≤ n ∧ n ≤ 255) : W (Int.tdiv (W n) 5) = n / 5 ∧ Int.tmod (W n) 5 = n % 5 ∧ W n = n := by
  have w : W n = n := W_eq (by omega) (by omega)
  rw [w, Int.tdiv_eq_ediv_of_nonneg h.1, Int.tmod_eq_emod_of_nonneg h.1]
  exact ⟨W_eq (by omega) (by omega), rfl, rfl⟩
def rawOp (b : List Int) (a : Nat) : Option (OpR × Nat) :=
  if a < b.length then
    (bif inB (b.getD a 0 / 5) 1 3 then
      (if a + 1 < b.length then some (⟨b.getD a 0 / 5, b.getD a 0 % 5, b.getD (a + 1) 0⟩, a + 2) else none)
    else some (⟨b.getD a 0 / 5, b.getD a 0 % 5, 0⟩, a + 1))
  else none
def unOp (b : List Int) (a : Nat) : Option (OpR × Nat) := (rawOp b a).bind fun r => bif opOk r.1 then some r else none
def unRes (r : Option (OpR × Nat)) : S := match r with
  | none => S.tup [S.agg (encOp ⟨0, 0, 0⟩), S.one (C.int (-1))]
  | some r => S.tup [S.agg (encOp r.1), S.one (C.int (r.2 : Nat))]
/-! ihasX: loop.example/g00712/impl.hasX -/
noncomputable def QihasX : Fx := ⟨Go.Proofs.Try.f134, [.ro], false, mkEnv tys_y1 [(85, Siwithin)] [], fun _ => .stop, []⟩
noncomputable def FihasX : List S → Option Res := veil QihasX.run
noncomputable def SihasX : Spec := ⟨[.ro], false, FihasX⟩
theorem mihasX (x1 : Int) : FihasX [.one (.int x1)] = cV false [.bool] (Fiwithin [.one (.int x1), .one (.int 1), .one (.int 3)]) fun b1 => fr false 1 [.one (.bool b1)] := Fx.eq (by kernel_rfl)
theorem okihasX : CalleeOk Go.Proofs.Try.prog 134 SihasX := Fx.ok (F := QihasX) follows (envTy_mk tys_y1_eq) (envSpec_of (specsOk_cons okiwithin specsOk_nil)) Go.Proofs.Try.func134 (by kernel_rfl) (by kernel_rfl) (by rw [show subs QihasX.code = [] by kernel_rfl]; trivial) (by kernel_rfl) (by kernel_rfl) rfl
theorem FihasX_at (n : Int) : FihasX [S.one (C.int n)] = some (S.one (C.bool (inB n 1 3)), [S.one C.unk]) := by
  simp [mihasX, Fiwithin_at]
/-! sl17HasX: loop.example/g00712/spec.l17HasX -/
noncomputable def Qsl17HasX : Fx := ⟨Go.Proofs.Try.f130, [.ro], false, mkEnv tys_y1 [(63, Ssl01In)] [], fun _ => .stop, []⟩
noncomputable def Fsl17HasX : List S → Option Res := veil Qsl17HasX.run
noncomputable def Ssl17HasX : Spec := ⟨[.ro], false, Fsl17HasX⟩
theorem msl17HasX (x1 : Int) : Fsl17HasX [.one (.int x1)] = cV false [.bool] (Fsl01In [.one (.int x1), .one (.int 1), .one (.int 3)]) fun b1 => fr false 1 [.one (.bool b1)] := Fx.eq (by kernel_rfl)
theorem oksl17HasX : CalleeOk Go.Proofs.Try.prog 130 Ssl17HasX := Fx.ok (F := Qsl17HasX) follows (envTy_mk tys_y1_eq) (envSpec_of (specsOk_cons oksl01In specsOk_nil)) Go.Proofs.Try.func130 (by kernel_rfl) (by kernel_rfl) (by rw [show subs Qsl17HasX.code = [] by kernel_rfl]; trivial) (by kernel_rfl) (by kernel_rfl) rfl
theorem Fsl17HasX_at (n : Int) : Fsl17HasX [S.one (C.int n)] = some (S.one (C.bool (inB n 1 3)), [S.one C.unk]) := by
  simp [msl17HasX, Fsl01In_at]
/-! iisWorker: loop.example/g00712/impl.isWorker -/
noncomputable def QiisWorker : Fx := ⟨Go.Proofs.Try.f133, [.ro], false, mkEnv tys_y1 [(85, Siwithin)] [], fun _ => .stop, []⟩
noncomputable def FiisWorker : List S → Option Res := veil QiisWorker.run
noncomputable def SiisWorker : Spec := ⟨[.ro], false, FiisWorker⟩
theorem miisWorker (x1 : Int) : FiisWorker [.one (.int x1)] = cV false [.bool] (Fiwithin [.one (.int x1), .one (.int 0), .one (.int 4)]) fun b1 => fr false 1 [.one (.bool b1)] := Fx.eq (by kernel_rfl)
theorem okiisWorker : CalleeOk Go.Proofs.Try.prog 133 SiisWorker := Fx.ok (F := QiisWorker) follows (envTy_mk tys_y1_eq) (envSpec_of (specsOk_cons okiwithin specsOk_nil)) Go.Proofs.Try.func133 (by kernel_rfl) (by kernel_rfl) (by rw [show subs QiisWorker.code = [] by kernel_rfl]; trivial) (by kernel_rfl) (by kernel_rfl) rfl
theorem FiisWorker_at (n : Int) : FiisWorker [S.one (C.int n)] = some (S.one (C.bool (inB n 0 4)), [S.one C.unk]) := by
  simp [miisWorker, Fiwithin_at]
/-! sl10Worker: loop.example/g00712/spec.l10Worker -/
noncomputable def Qsl10Worker : Fx := ⟨Go.Proofs.Try.f92, [.ro], false, mkEnv tys_y1 [(63, Ssl01In)] [], fun _ => .stop, []⟩
noncomputable def Fsl10Worker : List S → Option Res := veil Qsl10Worker.run
noncomputable def Ssl10Worker : Spec := ⟨[.ro], false, Fsl10Worker⟩
theorem msl10Worker (x1 : Int) : Fsl10Worker [.one (.int x1)] = cV false [.bool] (Fsl01In [.one (.int x1), .one (.int 0), .one (.int 4)]) fun b1 => fr false 1 [.one (.bool b1)] := Fx.eq (by kernel_rfl)
theorem oksl10Worker : CalleeOk Go.Proofs.Try.prog 92 Ssl10Worker := Fx.ok (F := Qsl10Worker) follows (envTy_mk tys_y1_eq) (envSpec_of (specsOk_cons oksl01In specsOk_nil)) Go.Proofs.Try.func92 (by kernel_rfl) (by kernel_rfl) (by rw [show subs Qsl10Worker.code = [] by kernel_rfl]; trivial) (by kernel_rfl) (by kernel_rfl) rfl
theorem Fsl10Worker_at (n : Int) : Fsl10Worker [S.one (C.int n)] = some (S.one (C.bool (inB n 0 4)), [S.one C.unk]) := by
  simp [msl10Worker, Fsl01In_at]
/-! iOpOk: loop.example/g00712/impl.OpOk -/
noncomputable def QiOpOk : Fx := ⟨Go.Proofs.Try.f81, [.ro], false, mkEnv tys_y1 [(133, SiisWorker), (134, SihasX), (85, Siwithin)] [], fun _ => .stop, []⟩
noncomputable def FiOpOk : List S → Option Res := veil QiOpOk.run
noncomputable def SiOpOk : Spec := ⟨[.ro], false, FiOpOk⟩
theorem miOpOk (x1 : Int) (x2 : Int) (x3 : Int) : FiOpOk [.agg [.int x1, .int x2, .int x3]] = (let q1 : Option Res := cV false [.bool] (FihasX [.one (.int x1)]) fun b1 => bif b1 then cV false [.bool] (Fiwithin [.one (.int x3), .one (.int 1), .one (.int 60)]) fun b2 => fr false 1 [.one (.bool b2)] else fr false 1 [.one (.bool (x3 == 0))]; cV false [.bool] (Fiwithin [.one (.int x1), .one (.int 0), .one (.int 6)]) fun b3 => bif !b3 then fr false 1 [.one (.bool false)] else cV false [.bool] (FiisWorker [.one (.int x2)]) fun b4 => bif !b4 then fr false 1 [.one (.bool false)] else bif x1 == 0 then bif x2 != 0 then fr false 1 [.one (.bool false)] else q1 else q1) := Fx.eq (by kernel_rfl)
theorem okiOpOk : CalleeOk Go.Proofs.Try.prog 81 SiOpOk := Fx.ok (F := QiOpOk) follows (envTy_mk tys_y1_eq) (envSpec_of (specsOk_cons okiisWorker (specsOk_cons okihasX (specsOk_cons okiwithin specsOk_nil)))) Go.Proofs.Try.func81 (by kernel_rfl) (by kernel_rfl) (by rw [show subs QiOpOk.code = [] by kernel_rfl]; trivial) (by kernel_rfl) (by kernel_rfl) rfl
theorem FiOpOk_at (o : OpR) : FiOpOk [S.agg (encOp o)] = some (S.one (C.bool (opOk o)), [S.one C.unk]) := by
  cases h1 : inB o.k 0 6 <;> cases h2 : inB o.t 0 4 <;> cases h3 : (o.k == 0) <;> cases h4 : (o.t != 0) <;> cases h5 : inB o.k 1 3 <;> simp [miOpOk, opOk, h1, h2, h3, h4, h5, FihasX_at, Fiwithin_at, FiisWorker_at]
/-! sOpOk: loop.example/g00712/spec.OpOk -/
noncomputable def QsOpOk : Fx := ⟨Go.Proofs.Try.f75, [.ro], false, mkEnv tys_y1 [(130, Ssl17HasX), (63, Ssl01In), (92, Ssl10Worker)] [], fun _ => .stop, []⟩
noncomputable def FsOpOk : List S → Option Res := veil QsOpOk.run
noncomputable def SsOpOk : Spec := ⟨[.ro], false, FsOpOk⟩
theorem msOpOk (x1 : Int) (x2 : Int) (x3 : Int) : FsOpOk [.agg [.int x1, .int x2, .int x3]] = (let q1 : Option Res := cV false [.bool] (Fsl17HasX [.one (.int x1)]) fun b1 => bif b1 then cV false [.bool] (Fsl01In [.one (.int x3), .one (.int 1), .one (.int 60)]) fun b2 => fr false 1 [.one (.bool b2)] else fr false 1 [.one (.bool (x3 == 0))]; cV false [.bool] (Fsl01In [.one (.int x1), .one (.int 0), .one (.int 6)]) fun b3 => bif !b3 then fr false 1 [.one (.bool false)] else cV false [.bool] (Fsl10Worker [.one (.int x2)]) fun b4 => bif !b4 then fr false 1 [.one (.bool false)] else bif x1 == 0 then bif x2 != 0 then fr false 1 [.one (.bool false)] else q1 else q1) := Fx.eq (by kernel_rfl)
theorem oksOpOk : CalleeOk Go.Proofs.Try.prog 75 SsOpOk := Fx.ok (F := QsOpOk) follows (envTy_mk tys_y1_eq) (envSpec_of (specsOk_cons oksl17HasX (specsOk_cons oksl01In (specsOk_cons oksl10Worker specsOk_nil)))) Go.Proofs.Try.func75 (by kernel_rfl) (by kernel_rfl) (by rw [show subs QsOpOk.code = [] by kernel_rfl]; trivial) (by kernel_rfl) (by kernel_rfl) rfl
theorem FsOpOk_at (o : OpR) : FsOpOk [S.agg (encOp o)] = some (S.one (C.bool (opOk o)), [S.one C.unk]) := by
  cases h1 : inB o.k 0 6 <;> cases h2 : inB o.t 0 4 <;> cases h3 : (o.k == 0) <;> cases h4 : (o.t != 0) <;> cases h5 : inB o.k 1 3 <;> simp [msOpOk, opOk, h1, h2, h3, h4, h5, Fsl17HasX_at, Fsl01In_at, Fsl10Worker_at]
/-! iUnpackOp: loop.example/g00712/impl.UnpackOp -/
noncomputable def QiUnpackOp : Fx := ⟨Go.Proofs.Try.f137, [.ro, .ro], false, mkEnv tys_y1 [(134, SihasX), (81, SiOpOk), (85, Siwithin)] [], fun id => bif Nat.beq id 3 then .sq [0, 1, 2, 3, 4, 5, 6, 7, 8, 9, 10, 11, 12, 13, 14, 15, 16, 17] .stop else .stop, []⟩
noncomputable def FiUnpackOp : List S → Option Res := veil QiUnpackOp.run
noncomputable def SiUnpackOp : Spec := ⟨[.ro, .ro], false, FiUnpackOp⟩
theorem miUnpackOp (x1 : Option Bool) (x2 : List (List C)) (x3 : Int) : FiUnpackOp [.one (.sl false x1 1 x2), .one (.int x3)] = cV false [.bool] (Fiwithin [.one (.int x3), .one (.int 0), .one (.int (W ((x2.length : Int) - 1)))]) fun b1 => bif !b1 then fr false 2 [.agg [.int 0, .int 0, .int 0], .one (.int (-1))] else ix x3 x2 ((x2[Int.toNat x3]?).bind fun w1 => tRo [.int .u8] w1 fun n1 => ix x3 x2 ((x2[Int.toNat x3]?).bind fun w2 => tRo [.int .u8] w2 fun n2 => (let q1 : Int → Int → Option Res := fun z1 z2 => cV false [.bool] (FiOpOk [.agg [.int (W (Int.tdiv (W (n1)) 5)), .int (Int.tmod (W (n2)) 5), .int z2]]) fun b2 => bif !b2 then fr false 2 [.agg [.int 0, .int 0, .int 0], .one (.int (-1))] else fr false 2 [.agg [.int (W (Int.tdiv (W (n1)) 5)), .int (Int.tmod (W (n2)) 5), .int z2], .one (.int z1)]; cV false [.bool] (FihasX [.one (.int (W (Int.tdiv (W (n1)) 5)))]) fun b3 => bif b3 then bif W (x3 + 1) == (x2.length : Int) then fr false 2 [.agg [.int 0, .int 0, .int 0], .one (.int (-1))] else ix (W (x3 + 1)) x2 ((x2[Int.toNat (W (x3 + 1))]?).bind fun w3 => tRo [.int .u8] w3 fun n3 => q1 (W ((W (x3 + 1)) + 1)) (W (n3))) else q1 (W (x3 + 1)) 0))) := Fx.eq (by kernel_rfl)
theorem okiUnpackOp : CalleeOk Go.Proofs.Try.prog 137 SiUnpackOp := Fx.ok (F := QiUnpackOp) follows (envTy_mk tys_y1_eq) (envSpec_of (specsOk_cons okihasX (specsOk_cons okiOpOk (specsOk_cons okiwithin specsOk_nil)))) Go.Proofs.Try.func137 (by kernel_rfl) (by kernel_rfl) (by rw [show subs QiUnpackOp.code = [] by kernel_rfl]; trivial) (by kernel_rfl) (by kernel_rfl) rfl
theorem FiUnpackOp_at (nl : Option Bool) (b : List Int) (a : Nat) (h : bOk b ∧ b.length ≤ 1048576 ∧ a ≤ 1048576) : FiUnpackOp [S.one (C.sl false nl 1 (b.map encB)), S.one (C.int (a : Int))] = some (unRes (unOp b a), [S.one C.unk, S.one C.unk]) := by
  obtain ⟨hb, hl, ha⟩ := h
  have w0 : W ((b.length : Int) - 1) = (b.length : Int) - 1 := W_eq (by omega) (by omega)
  by_cases h1 : a < b.length
  · have e1 : inB (a : Int) 0 ((b.length : Int) - 1) = true := by rw [inB_iff]; omega
    have hr := bOk_get hb h1
    obtain ⟨t1, t2, t3⟩ := tdiv5 hr
    have w1 : W ((a : Int) + 1) = ((a + 1 : Nat) : Int) := by rw [W_eq (by omega) (by omega)]; omega
    have hok := FiOpOk_at
    cases h5 : inB (b[a] / 5) 1 3 with
    | false =>
      cases h6 : opOk ⟨b[a] / 5, b[a] % 5, 0⟩ <;> simp [miUnpackOp, Fiwithin_at, FihasX_at, w0, e1, h1, t1, t2, h5, w1, hok ⟨b[a] / 5, b[a] % 5, 0⟩, h6, unRes, unOp, rawOp, List.getD]
    | true =>
      by_cases h7 : a + 1 < b.length
      · have hr' := bOk_get hb h7
        have w2 : W (((a + 1 : Nat) : Int) + 1) = ((a + 2 : Nat) : Int) := by rw [W_eq (by omega) (by omega)]; omega
        have w3 : W b[a + 1] = b[a + 1] := W_eq (by omega) (by omega)
        have h8 : (((a + 1 : Nat) : Int) == (b.length : Int)) = false := by simp; omega
        cases h6 : opOk ⟨b[a] / 5, b[a] % 5, b[a + 1]⟩ <;> simp [-Int.natCast_add, miUnpackOp, Fiwithin_at, FihasX_at, w0, e1, h1, t1, t2, h5, w1, w2, w3, h7, h8, hok ⟨b[a] / 5, b[a] % 5, b[a + 1]⟩, h6, unRes, unOp, rawOp, List.getD]
      · have h8 : (((a + 1 : Nat) : Int) == (b.length : Int)) = true := by simp; omega
        simp [-Int.natCast_add, miUnpackOp, Fiwithin_at, FihasX_at, w0, e1, h1, t1, t2, h5, w1, h7, h8, unRes, unOp, rawOp, List.getD]
  · have e1 : inB (a : Int) 0 ((b.length : Int) - 1) = false := by rw [Bool.eq_false_iff, Ne, inB_iff]; omega
    simp [miUnpackOp, Fiwithin_at, w0, e1, h1, unRes, unOp, rawOp]
/-! sUnpackOp: loop.example/g00712/spec.UnpackOp -/
noncomputable def QsUnpackOp : Fx := ⟨Go.Proofs.Try.f139, [.ro, .ro], false, mkEnv tys_y1 [(130, Ssl17HasX), (75, SsOpOk)] [], fun id => bif Nat.beq id 3 then .sq [0, 1, 2, 3, 4, 5, 6, 7, 8, 9, 10, 11, 12, 13, 14] .stop else .stop, []⟩
noncomputable def FsUnpackOp : List S → Option Res := veil QsUnpackOp.run
noncomputable def SsUnpackOp : Spec := ⟨[.ro, .ro], false, FsUnpackOp⟩
theorem msUnpackOp (x1 : Option Bool) (x2 : List (List C)) (x3 : Int) : FsUnpackOp [.one (.sl false x1 1 x2), .one (.int x3)] = bif decide (x3 < 0) then fr false 2 [.agg [.int 0, .int 0, .int 0], .one (.int (-1))] else bif decide (x3 ≥ (x2.length : Int)) then fr false 2 [.agg [.int 0, .int 0, .int 0], .one (.int (-1))] else ix x3 x2 ((x2[Int.toNat x3]?).bind fun w1 => tRo [.int .u8] w1 fun n1 => ix x3 x2 ((x2[Int.toNat x3]?).bind fun w2 => tRo [.int .u8] w2 fun n2 => (let q1 : Int → Int → Option Res := fun z1 z2 => cV false [.bool] (FsOpOk [.agg [.int (W (Int.tdiv (W (n1)) 5)), .int (Int.tmod (W (n2)) 5), .int z2]]) fun b1 => bif !b1 then fr false 2 [.agg [.int 0, .int 0, .int 0], .one (.int (-1))] else fr false 2 [.agg [.int (W (Int.tdiv (W (n1)) 5)), .int (Int.tmod (W (n2)) 5), .int z2], .one (.int z1)]; cV false [.bool] (Fsl17HasX [.one (.int (W (Int.tdiv (W (n1)) 5)))]) fun b2 => bif b2 then bif decide (W (x3 + 1) ≥ (x2.length : Int)) then fr false 2 [.agg [.int 0, .int 0, .int 0], .one (.int (-1))] else ix (W (x3 + 1)) x2 ((x2[Int.toNat (W (x3 + 1))]?).bind fun w3 => tRo [.int .u8] w3 fun n3 => q1 (W ((W (x3 + 1)) + 1)) (W (n3))) else q1 (W (x3 + 1)) 0))) := Fx.eq (by kernel_rfl)
theorem oksUnpackOp : CalleeOk Go.Proofs.Try.prog 139 SsUnpackOp := Fx.ok (F := QsUnpackOp) follows (envTy_mk tys_y1_eq) (envSpec_of (specsOk_cons oksl17HasX (specsOk_cons oksOpOk specsOk_nil))) Go.Proofs.Try.func139 (by kernel_rfl) (by kernel_rfl) (by rw [show subs QsUnpackOp.code = [] by kernel_rfl]; trivial) (by kernel_rfl) (by kernel_rfl) rfl
theorem FsUnpackOp_at (nl : Option Bool) (b : List Int) (a : Nat) (h : bOk b ∧ b.length ≤ 1048576 ∧ a ≤ 1048576) : FsUnpackOp [S.one (C.sl false nl 1 (b.map encB)), S.one (C.int (a : Int))] = some (unRes (unOp b a), [S.one C.unk, S.one C.unk]) := by
  obtain ⟨hb, hl, ha⟩ := h
  have e0 : ¬ (a : Int) < 0 := by omega
  by_cases h1 : a < b.length
  · have e1 : ¬ (a : Int) ≥ (b.length : Int) := by omega
    have hr := bOk_get hb h1
    obtain ⟨t1, t2, t3⟩ := tdiv5 hr
    have w1 : W ((a : Int) + 1) = ((a + 1 : Nat) : Int) := by rw [W_eq (by omega) (by omega)]; omega
    have hok := FsOpOk_at
    cases h5 : inB (b[a] / 5) 1 3 with
    | false =>
      cases h6 : opOk ⟨b[a] / 5, b[a] % 5, 0⟩ <;> simp [-ge_iff_le, msUnpackOp, Fsl17HasX_at, e0, e1, h1, t1, t2, h5, w1, hok ⟨b[a] / 5, b[a] % 5, 0⟩, h6, unRes, unOp, rawOp, List.getD]
    | true =>
      by_cases h7 : a + 1 < b.length
      · have hr' := bOk_get hb h7
        have w2 : W (((a + 1 : Nat) : Int) + 1) = ((a + 2 : Nat) : Int) := by rw [W_eq (by omega) (by omega)]; omega
        have w3 : W b[a + 1] = b[a + 1] := W_eq (by omega) (by omega)
        have h8 : ¬ ((a + 1 : Nat) : Int) ≥ (b.length : Int) := by omega
        cases h6 : opOk ⟨b[a] / 5, b[a] % 5, b[a + 1]⟩ <;> simp [-Int.natCast_add, -ge_iff_le, msUnpackOp, Fsl17HasX_at, e0, e1, h1, t1, t2, h5, w1, w2, w3, h7, h8, hok ⟨b[a] / 5, b[a] % 5, b[a + 1]⟩, h6, unRes, unOp, rawOp, List.getD]
      · have h8 : ((a + 1 : Nat) : Int) ≥ (b.length : Int) := by omega
        simp [-Int.natCast_add, -ge_iff_le, msUnpackOp, Fsl17HasX_at, e0, e1, h1, t1, t2, h5, w1, h7, h8, unRes, unOp, rawOp, List.getD]
  · have e1 : (a : Int) ≥ (b.length : Int) := by omega
    simp [-ge_iff_le, msUnpackOp, e0, e1, h1, unRes, unOp, rawOp]
def sumStep (s x : Int) : Int := (31 * s + x) % 65521
def sumB (b : List Int) : Int := b.foldl sumStep 1
theorem sumStep_eq {s x : Int} (hs : 0 ≤ s ∧ s < 65521) (hx : 0 ≤ x ∧ x ≤ 255) : Int.tmod (W ((W (31 * s)) + (W x))) 65521 = sumStep s x := by
  rw [W_eq (n := x) (by omega) (by omega), W_eq (n := 31 * s) (by omega) (by omega), W_eq (by omega) (by omega), Int.tmod_eq_emod_of_nonneg (by omega), sumStep]
theorem sumStep_range (s x : Int) : 0 ≤ sumStep s x ∧ sumStep s x < 65521 := by unfold sumStep; omega
theorem sumB_range (b : List Int) : 0 ≤ sumB b ∧ sumB b < 65521 := by
  have key : ∀ (b : List Int) (s : Int), 0 ≤ s ∧ s < 65521 → 0 ≤ b.foldl sumStep s ∧ b.foldl sumStep s < 65521 := by
    intro b
    induction b with
    | nil => intro s h; exact h
    | cons x b ih => intro s _; exact ih _ (sumStep_range s x)
  exact key b 1 (by omega)
/-! iSumBytes: loop.example/g00712/impl.SumBytes -/
@[reducible] def hiSumBytes_3 : Sh := ⟨[.one (.o (.i .i64)), .one (.o (.sl false 1)), .one (.o (.i .i64)), .one (.o (.i .i64))], []⟩
@[reducible] def xiSumBytes_3 : List (Ex × Sh) := [(.exit 0, ⟨[.one (.o (.i .i64))], []⟩)]
noncomputable def RiSumBytes_3 : KC xiSumBytes_3 (hiSumBytes_3.K → hiSumBytes_3.K) := fun k0 nx v1 v2 v3 v4 v5 => bif decide (v5 < v4) then ix v5 v3 ((v3[Int.toNat v5]?).bind fun w1 => tRo [.int .u8] w1 fun n1 => nx (Int.tmod (W ((W (31 * v1)) + (W (n1)))) 65521) v2 v3 v4 (W (v5 + 1))) else k0 v1
noncomputable def LiSumBytes_3 : Lp := ⟨3, [3, 6, 7, 8], [3], 0, 20, hiSumBytes_3, xiSumBytes_3, RiSumBytes_3⟩
noncomputable def QiSumBytes : Fx := ⟨Go.Proofs.Try.f170, [.ro], false, mkEnv tys_y1 [] [], fun _ => .stop, [LiSumBytes_3]⟩
noncomputable def FiSumBytes : List S → Option Res := veil QiSumBytes.run
noncomputable def SiSumBytes : Spec := ⟨[.ro], false, FiSumBytes⟩
theorem miSumBytes (x1 : Option Bool) (x2 : List (List C)) : FiSumBytes [.one (.sl false x1 1 x2)] = iterC (RiSumBytes_3 (fun y1 => fr false 1 [.one (.int y1)])) FUEL 1 x1 x2 (x2.length : Int) 0 := Fx.eq (by kernel_rfl)
theorem stiSumBytes_3 : LiSumBytes_3.Step QiSumBytes.E QiSumBytes.dr QiSumBytes.lp ((findLoop 3 QiSumBytes.code).getD .skip) := fun k nx v => by kernel_rfl
theorem okiSumBytes : CalleeOk Go.Proofs.Try.prog 170 SiSumBytes := Fx.ok (F := QiSumBytes) follows (envTy_mk tys_y1_eq) (envSpec_of (specsOk_nil)) Go.Proofs.Try.func170 (by kernel_rfl) (by kernel_rfl) (by
  rw [show subs QiSumBytes.code = [(findLoop 3 QiSumBytes.code).getD .skip] by kernel_rfl]
  exact ⟨stepAt_some (by kernel_rfl) stiSumBytes_3, trivial⟩) (by kernel_rfl) (by kernel_rfl) rfl
theorem FiSumBytes_at (nl : Option Bool) (b : List Int) (h : bOk b ∧ b.length ≤ 1048576) : FiSumBytes [S.one (C.sl false nl 1 (b.map encB))] = some (S.one (C.int (sumB b)), [S.one C.unk]) := by
  obtain ⟨hb, hl⟩ := h
  rw [miSumBytes, List.length_map]
  refine (iter_fold (h := hiSumBytes_3) b (fun i (s : Int) f => f s nl (b.map encB) (b.length : Int) (i : Int)) sumStep (fun s => fr false 1 [.one (.int s)]) (fun _ s => 0 ≤ s ∧ s < 65521) (by omega) ?_ ?_ 1 (by omega)).trans ?_
  · intro nx s _; simp [RiSumBytes_3]
  · intro nx i s hi hs hW
    have hr := bOk_get hb hi
    exact ⟨sumStep_range _ _, by simp [RiSumBytes_3, hi, hW, sumStep_eq hs hr]⟩
  · simp [sumB]
/-! sSumBytes: loop.example/g00712/spec.SumBytes -/
@[reducible] def hsSumBytes_3 : Sh := ⟨[.one (.o (.sl false 1)), .one (.o (.i .i64)), .one (.o (.i .i64))], []⟩
@[reducible] def xsSumBytes_3 : List (Ex × Sh) := [(.exit 0, ⟨[.one (.o (.i .i64))], []⟩)]
noncomputable def RsSumBytes_3 : KC xsSumBytes_3 (hsSumBytes_3.K → hsSumBytes_3.K) := fun k0 nx v1 v2 v3 v4 => bif decide (v4 < (v2.length : Int)) then ix v4 v2 ((v2[Int.toNat v4]?).bind fun w1 => tRo [.int .u8] w1 fun n1 => nx v1 v2 (Int.tmod (W ((W (31 * v3)) + (W (n1)))) 65521) (W (v4 + 1))) else k0 v3
noncomputable def LsSumBytes_3 : Lp := ⟨3, [0, 3, 4], [3], 0, 21, hsSumBytes_3, xsSumBytes_3, RsSumBytes_3⟩
noncomputable def QsSumBytes : Fx := ⟨Go.Proofs.Try.f78, [.ro], false, mkEnv tys_y1 [] [], fun _ => .stop, [LsSumBytes_3]⟩
noncomputable def FsSumBytes : List S → Option Res := veil QsSumBytes.run
noncomputable def SsSumBytes : Spec := ⟨[.ro], false, FsSumBytes⟩
theorem msSumBytes (x1 : Option Bool) (x2 : List (List C)) : FsSumBytes [.one (.sl false x1 1 x2)] = iterC (RsSumBytes_3 (fun y1 => fr false 1 [.one (.int y1)])) FUEL x1 x2 1 0 := Fx.eq (by kernel_rfl)
theorem stsSumBytes_3 : LsSumBytes_3.Step QsSumBytes.E QsSumBytes.dr QsSumBytes.lp ((findLoop 3 QsSumBytes.code).getD .skip) := fun k nx v => by kernel_rfl
theorem oksSumBytes : CalleeOk Go.Proofs.Try.prog 78 SsSumBytes := Fx.ok (F := QsSumBytes) follows (envTy_mk tys_y1_eq) (envSpec_of (specsOk_nil)) Go.Proofs.Try.func78 (by kernel_rfl) (by kernel_rfl) (by
  rw [show subs QsSumBytes.code = [(findLoop 3 QsSumBytes.code).getD .skip] by kernel_rfl]
  exact ⟨stepAt_some (by kernel_rfl) stsSumBytes_3, trivial⟩) (by kernel_rfl) (by kernel_rfl) rfl
theorem FsSumBytes_at (nl : Option Bool) (b : List Int) (h : bOk b ∧ b.length ≤ 1048576) : FsSumBytes [S.one (C.sl false nl 1 (b.map encB))] = some (S.one (C.int (sumB b)), [S.one C.unk]) := by
  obtain ⟨hb, hl⟩ := h
  rw [msSumBytes]
  refine (iter_fold (h := hsSumBytes_3) b (fun i (s : Int) f => f nl (b.map encB) s (i : Int)) sumStep (fun s => fr false 1 [.one (.int s)]) (fun _ s => 0 ≤ s ∧ s < 65521) (by omega) ?_ ?_ 1 (by omega)).trans ?_
  · intro nx s _; simp [RsSumBytes_3]
  · intro nx i s hi hs hW
    have hr := bOk_get hb hi
    exact ⟨sumStep_range _ _, by simp [RsSumBytes_3, hi, hW, sumStep_eq hs hr]⟩
  · simp [sumB]
end Go.Proofs.Gh.Gm
set_option linter.unusedVariables false
set_option linter.unusedSimpArgs false
set_option maxRecDepth 100000
set_option maxHeartbeats 2000000
namespace Go.Proofs.Gh.Gm
def tys_y2 : List (Nat × TI) := [(3, ⟨false, 8, [.int .i64], [.int 0], .scalar, false, none⟩),
  (4, ⟨false, 1, [.bool], [.bool false], .scalar, false, none⟩),
  (5, ⟨false, 1, [.int .u8], [.v (.int .u8 0)], .scalar, false, none⟩),
  (9, ⟨false, 16, [.str], [.str ByteArray.empty], .scalar, false, none⟩),
  (38, ⟨false, 24, [.sl 1], [.sl true (some true) 1 []], .slice 5, false, none⟩),
  (40, ⟨false, 24, [.sl 3], [.sl true (some true) 3 []], .slice 104, false, none⟩),
  (104, ⟨true, 24, [.int .i64, .int .i64, .int .i64], [.int 0, .int 0, .int 0], .struct [(0, 1, false), (1, 1, false), (2, 1, false)], true, none⟩),
  (151, ⟨false, 0, [], [], .tuple [104, 3], false, none⟩)]
theorem tys_y2_eq : tys_y2.map (fun x => tiOf Go.Proofs.Try.prog x.1 x.2.cks) = tys_y2.map fun x => some x.2 := by kernel_rfl
theorem layslicesClone_byte : SlLaysE0.n41 Go.Proofs.Try.prog (rho 86 38 5) := ⟨follows, ⟨Go.Proofs.Try.f86.name, by kernel_rfl, by kernel_rfl⟩, Go.Proofs.Try.underlying4, Go.Proofs.Try.isAgg4, Go.Proofs.Try.sizeOf4, Go.Proofs.Try.zeroValue4, Go.Proofs.Try.underlying38, Go.Proofs.Try.isAgg38, Go.Proofs.Try.sizeOf38, Go.Proofs.Try.zeroValue38⟩
noncomputable def FslicesClone_byte : List S → Option Res := veil (cloneRun 1 1)
noncomputable def SslicesClone_byte : Spec := ⟨[.ro], false, FslicesClone_byte⟩
theorem okslicesClone_byte : CalleeOk Go.Proofs.Try.prog 86 SslicesClone_byte := ⟨by
  have h := clone_ok layslicesClone_byte (Option.get (Go.Proofs.Try.prog.info? 5) (by kernel_rfl)) (Option.get (Option.get (Go.Proofs.Try.prog.info? 5) (by kernel_rfl)).zero (by kernel_rfl)) 1 1 (Option.some_get _).symm (Option.some_get _).symm (by kernel_rfl) (by kernel_rfl) (by kernel_rfl) (by decide) Go.Proofs.Try.sizeOf5
  unfold SslicesClone_byte FslicesClone_byte
  rw [veil_eq]
  exact h, _, Go.Proofs.Try.func86, by kernel_rfl, by kernel_rfl⟩
theorem FslicesClone_byte_at {α : Type} {f : α → List C} (hf : ∀ x, (f x).length = 1 ∧ ∀ c ∈ f x, ∃ v : Value, c = .v v) (nl : Option Bool) (l : List α) (h : l.length * 1 ≤ 140737488355328) : FslicesClone_byte [.one (.sl false nl 1 (l.map f))] = some (.one (.sl true nl 1 (l.map f)), [.one .unk]) := (congrFun (veil_eq _) _).trans (clone_at (fun row hr => by obtain ⟨x, _, rfl⟩ := List.mem_map.1 hr; exact hf x) (by simpa using h))
/-! bytesEqual: bytes.Equal -/
noncomputable def QbytesEqual : Fx := ⟨Go.Proofs.Try.f83, [.ro, .ro], false, mkEnv tys_y2 [] [], fun _ => .stop, []⟩
noncomputable def FbytesEqual : List S → Option Res := veil QbytesEqual.run
noncomputable def SbytesEqual : Spec := ⟨[.ro, .ro], false, FbytesEqual⟩
theorem mbytesEqual (x1 : Option Bool) (x2 : List (List C)) (x3 : Option Bool) (x4 : List (List C)) : FbytesEqual [.one (.sl false x1 1 x2), .one (.sl false x3 1 x4)] = (bytesOf x2).bind fun l1 => (bytesOf x4).bind fun l2 => fr false 2 [.one (.bool ((ByteArray.mk (List.toArray l1)).toList == (ByteArray.mk (List.toArray l2)).toList))] := Fx.eq (by kernel_rfl)
theorem okbytesEqual : CalleeOk Go.Proofs.Try.prog 83 SbytesEqual := Fx.ok (F := QbytesEqual) follows (envTy_mk tys_y2_eq) (envSpec_of (specsOk_nil)) Go.Proofs.Try.func83 (by kernel_rfl) (by kernel_rfl) (by rw [show subs QbytesEqual.code = [] by kernel_rfl]; trivial) (by kernel_rfl) (by kernel_rfl) rfl
theorem bytesOf_encB (l : List Int) : bytesOf (l.map encB) = some (l.map fun n => UInt8.ofNat n.toNat) := by
  induction l with
  | nil => rfl
  | cons n l ih => simp [bytesOf, ih]
theorem u8_inj {a b : Int} (ha : 0 ≤ a ∧ a ≤ 255) (hb : 0 ≤ b ∧ b ≤ 255) : (UInt8.ofNat a.toNat = UInt8.ofNat b.toNat) ↔ a = b := by
  constructor
  · intro h
    have := congrArg UInt8.toNat h
    simp only [UInt8.toNat_ofNat'] at this
    omega
  · rintro rfl; rfl
theorem u8_map {a b : List Int} (ha : bOk a) (hb : bOk b) : (a.map fun n => UInt8.ofNat n.toNat) = (b.map fun n => UInt8.ofNat n.toNat) ↔ a = b := by
  constructor
  · intro h
    induction a generalizing b with
    | nil => cases b with
      | nil => rfl
      | cons y b => simp at h
    | cons x a ih =>
      cases b with
      | nil => simp at h
      | cons y b =>
        simp only [List.map_cons, List.cons.injEq] at h
        rw [(u8_inj (ha x (by simp)) (hb y (by simp))).1 h.1, ih (fun z hz => ha z (by simp [hz])) (fun z hz => hb z (by simp [hz])) h.2]
  · rintro rfl; rfl
theorem baToList (l : List UInt8) : (ByteArray.mk l.toArray).toList = l := by simp
theorem eqBytes (nl nl' : Option Bool) (a b : List Int) (ha : bOk a) (hb : bOk b) : FbytesEqual [.one (.sl false nl 1 (a.map encB)), .one (.sl false nl' 1 (b.map encB))] = some (.one (.bool (decide (a = b))), [.one .unk, .one .unk]) := by
  have hm := mbytesEqual nl (a.map encB) nl' (b.map encB)
  simp only [bytesOf_encB, Option.bind_some, baToList] at hm
  have e : ((a.map fun n => UInt8.ofNat n.toNat) == (b.map fun n => UInt8.ofNat n.toNat)) = decide (a = b) := by
    rw [Bool.eq_iff_iff]; simp [u8_map ha hb]
  rw [e] at hm
  exact hm.trans (by simp)
theorem byte_plain (x : Int) : (encB x).length = 1 ∧ ∀ c ∈ encB x, ∃ v : Value, c = .v v := ⟨rfl, fun c hc => ⟨_, by simpa using hc⟩⟩
@[simp] theorem apNl_one (o : Option Bool) (x : List C) (l : List (List C)) : apNl o (x :: l) = some false := by cases o with
  | none => rfl
  | some b => cases b <;> rfl
@[simp] theorem apNl_ff (l : List (List C)) : apNl (some false) l = some false := rfl
@[simp] theorem ix0_map {α : Type} {f : α → List C} {l : List α} {k : Option Res} (h : 0 < l.length) : ix 0 (l.map f) k = k := ix_of (by omega) (by simpa using h)
@[simp] theorem ix1_map {α : Type} {f : α → List C} {l : List α} {k : Option Res} (h : 1 < l.length) : ix 1 (l.map f) k = k := ix_of (by omega) (by simp; omega)
/-! isealed: loop.example/g00712/impl.sealed -/
noncomputable def Qisealed : Fx := ⟨Go.Proofs.Try.f136, [.ro], false, mkEnv tys_y2 [(170, SiSumBytes), (86, SslicesClone_byte)] [], fun _ => .stop, []⟩
noncomputable def Fisealed : List S → Option Res := veil Qisealed.run
noncomputable def Sisealed : Spec := ⟨[.ro], false, Fisealed⟩
theorem misealed (x1 : Option Bool) (x2 : List (List C)) : Fisealed [.one (.sl false x1 1 x2)] = cV false [.int .i64] (FiSumBytes [.one (.sl false x1 1 x2)]) fun n1 => cV false [.sl 1] (FslicesClone_byte [.one (.sl false x1 1 x2)]) fun o1 l1 => if (l1.length + 2) * 1 ≤ LIM then fr false 1 [.one (.sl true (apNl o1 [[]]) 1 (l1 ++ [[.v (.int .u8 (B8 (Int.fdiv n1 (2 ^ 8))))], [.v (.int .u8 (B8 (n1)))]]))] else none := Fx.eq (by kernel_rfl)
theorem okisealed : CalleeOk Go.Proofs.Try.prog 136 Sisealed := Fx.ok (F := Qisealed) follows (envTy_mk tys_y2_eq) (envSpec_of (specsOk_cons okiSumBytes (specsOk_cons okslicesClone_byte specsOk_nil))) Go.Proofs.Try.func136 (by kernel_rfl) (by kernel_rfl) (by rw [show subs Qisealed.code = [] by kernel_rfl]; trivial) (by kernel_rfl) (by kernel_rfl) rfl
theorem Fisealed_at (nl : Option Bool) (b : List Int) (h : bOk b ∧ b.length ≤ 1048576) : Fisealed [S.one (C.sl false nl 1 (b.map encB))] = some (S.one (C.sl true (some false) 1 ((b ++ [B8 (sumB b / 256), B8 (sumB b)]).map encB)), [S.one C.unk]) := by
  have e1 := FiSumBytes_at nl b h
  have e2 := FslicesClone_byte_at byte_plain nl b (by omega)
  have hL : (b.length + 2) * 1 ≤ LIM := by unfold LIM; omega
  have e3 : Int.fdiv (sumB b) 256 = sumB b / 256 := Int.fdiv_eq_ediv_of_nonneg _ (by decide)
  have hL' : b.length + 2 ≤ LIM := by omega
  have hf : rowsFree (b.map encB ++ [encB (B8 (sumB b / 256)), encB (B8 (sumB b))]) = true := by
    have := encB_free (b ++ [B8 (sumB b / 256), B8 (sumB b)])
    simpa using this
  simp [misealed, e1, e2, hL', e3, hf]
/-- So many operations from a place on. -/
def parseN (b : List Int) : Nat → Nat → Option (List OpR × Nat)
  | 0, a => some ([], a)
  | n + 1, a => match unOp b a with
    | none => none
    | some (o, a') => match parseN b n a' with
      | none => none
      | some (l, e) => some (o :: l, e)
def blockB (b : List Int) : Option (List OpR × Nat) :=
  if b.length < 2 ∨ inB (b.getD 0 0) 1 16 = false ∨ b.length < (b.getD 1 0).toNat + 4 then none
  else match parseN (b.take (2 + (b.getD 1 0).toNat)) (b.getD 0 0).toNat 2 with
    | none => none
    | some (l, e) => if e = 2 + (b.getD 1 0).toNat ∧ sumB (b.take e) = 256 * b.getD e 0 + b.getD (e + 1) 0 then some (l, e + 2) else none
theorem unOp_le {b : List Int} {a : Nat} {r : OpR × Nat} (h : unOp b a = some r) : a < r.2 ∧ r.2 ≤ b.length ∧ r.2 ≤ a + 2 := by
  unfold unOp rawOp at h
  split at h
  · cases h5 : inB (b.getD a 0 / 5) 1 3 <;> simp only [h5, cond_true, cond_false] at h
    · simp only [Option.bind_some] at h
      cases h6 : opOk ⟨b.getD a 0 / 5, b.getD a 0 % 5, 0⟩ <;> simp only [h6, cond_true, cond_false] at h
      · cases h
      · cases h; simp; omega
    · split at h
      · simp only [Option.bind_some] at h
        cases h6 : opOk ⟨b.getD a 0 / 5, b.getD a 0 % 5, b.getD (a + 1) 0⟩ <;> simp only [h6, cond_true, cond_false] at h
        · cases h
        · cases h; simp; omega
      · cases h
  · cases h
theorem parseN_le {b : List Int} {n a : Nat} {r : List OpR × Nat} (h : parseN b n a = some r) : r.1.length = n ∧ a ≤ r.2 ∧ r.2 ≤ max a b.length := by
  induction n generalizing a r with
  | zero => cases h; exact ⟨rfl, Nat.le_refl _, by simp only; omega⟩
  | succ n ih =>
    rw [parseN] at h
    split at h
    · cases h
    · rename_i o a' hu
      have hu := unOp_le hu
      split at h
      · cases h
      · rename_i l e hp
        have := ih hp
        cases h
        simp only [List.length_cons] at this ⊢
        simp only at hu
        omega
/-- What is behind a list of operations, put behind them. -/
def pre (acc : List OpR) : Option (List OpR × Nat) → Option (List OpR × Nat)
  | none => none
  | some (l, e) => some (acc ++ l, e)
theorem pre_cons {b : List Int} {n a a' : Nat} {o : OpR} {acc : List OpR} (h : unOp b a = some (o, a')) : pre acc (parseN b (n + 1) a) = pre (acc ++ [o]) (parseN b n a') := by
  simp only [parseN, h]
  cases parseN b n a' <;> simp [pre]
theorem pre_none {b : List Int} {n a : Nat} {acc : List OpR} (h : unOp b a = none) : pre acc (parseN b (n + 1) a) = none := by
  simp only [parseN, h]; rfl
theorem pre_zero {b : List Int} {a : Nat} {acc : List OpR} : pre acc (parseN b 0 a) = some (acc, a) := by simp [parseN, pre]
theorem pre_nil (r : Option (List OpR × Nat)) : pre [] r = r := by cases r <;> simp [pre]
theorem sum_split {s x y : Int} (hs : 0 ≤ s ∧ s < 65521) (hx : 0 ≤ x ∧ x ≤ 255) (hy : 0 ≤ y ∧ y ≤ 255) : (B8 (s / 256) = x ∧ B8 s = y) ↔ s = 256 * x + y := by
  rw [B8_mod, B8_mod]; omega
theorem sealed_eq {b : List Int} (hb : bOk b) {e : Nat} (he : e + 2 ≤ b.length) : decide (b.take e ++ [B8 (sumB (b.take e) / 256), B8 (sumB (b.take e))] = b.take (e + 2)) = decide (sumB (b.take e) = 256 * b.getD e 0 + b.getD (e + 1) 0) := by
  have h1 : e < b.length := by omega
  have h2 : e + 1 < b.length := by omega
  have e1 : b.take (e + 2) = b.take e ++ [b[e], b[e + 1]] := by
    rw [List.take_succ_eq_append_getElem h2, List.take_succ_eq_append_getElem h1]; simp only [List.append_assoc, List.cons_append, List.nil_append]
  rw [e1]
  simp only [List.append_cancel_left_eq, List.cons.injEq, and_true, sum_split (sumB_range _) (bOk_get hb h1) (bOk_get hb h2)]
  simp [List.getD, h1, h2]
def blkRes (z : Int) (r : Option (List OpR × Nat)) : S := match r with
  | none => S.tup [S.one (C.sl true (some true) 3 []), S.one (C.int z)]
  | some r => S.tup [S.one (C.sl true (some false) 3 (r.1.map encOp)), S.one (C.int (r.2 : Nat))]
/-! iblock: loop.example/g00712/impl.block -/
@[reducible] def hiblock_6 : Sh := ⟨[.one (.o (.sl false 1)), .one (.o (.i .i64)), .one (.o (.al 2 0 [])), .one (.o (.i .i64)), .one (.o (.i .i64)), .one (.o (.i .i64))], [(true, [.o .u]), (true, [.o .u]), (true, [.o (.sl true 3)])]⟩
@[reducible] def xiblock_6 : List (Ex × Sh) := [(.ret, ⟨[.one (.o (.sl false 1)), .one (.o (.al 4 0 [])), .one (.o (.i .i64)), .one (.o (.i .i64)), .one (.o (.al 2 0 [])), .one (.o (.i .i64))], [(true, [.o .u]), (true, [.o .u]), (true, [.o (.sl true 3)]), (false, [.o (.i .i64), .o (.i .i64), .o (.i .i64)]), (true, [.o (.sl true 3)])]⟩), (.exit 0, ⟨[.one (.o (.sl false 1)), .one (.o .u), .one (.o .u), .one (.o (.i .i64)), .one (.o (.al 2 0 [])), .one (.o (.i .i64))], [(true, [.o .u]), (true, [.o .u]), (true, [.o (.sl true 3)])]⟩)]
noncomputable def Riblock_6 : KC xiblock_6 (hiblock_6.K → hiblock_6.K) := fun k0 k1 nx v1 v2 v3 v4 v5 v6 v7 v8 => bif decide (v6 < v5) then if 0 ≤ (0 : Int) ∧ (0 : Int) ≤ v3 ∧ v3 ≤ (v2.length : Int) then cT [(true, [.int .i64, .int .i64, .int .i64]), (false, [.int .i64])] (FiUnpackOp [.one (.sl false (cutNl v1) 1 (List.drop 0 (List.take (Int.toNat v3) v2))), .one (.int v4)]) fun n5 n6 n7 n8 => bif decide (n8 < 0) then k0 v1 v2 0 v3 v4 v7 v8 n5 n6 n7 (some true) [] else if (v8.length + 1) * 24 ≤ LIM then nx v1 v2 v3 n8 v5 (W (v6 + 1)) (apNl v7 [[]]) (v8 ++ [[.int n5, .int n6, .int n7]]) else none else none else k1 v1 v2 v3 v4 v7 v8
noncomputable def Liblock_6 : Lp := ⟨6, [0, 4, 5, 6, 39, 40], [0, 2, 3, 4, 5, 6], 2, 76, hiblock_6, xiblock_6, Riblock_6⟩
noncomputable def Qiblock : Fx := ⟨Go.Proofs.Try.f84, [.ro], false, mkEnv tys_y2 [(136, Sisealed), (137, SiUnpackOp), (83, SbytesEqual), (85, Siwithin)] [], fun id => bif Nat.beq id 12 then .sq [0, 1, 2, 3, 4, 5, 6, 8, 9, 10, 11, 7, 12, 13, 14] .stop else .stop, [Liblock_6]⟩
noncomputable def Fiblock : List S → Option Res := veil Qiblock.run
noncomputable def Siblock : Spec := ⟨[.ro], false, Fiblock⟩
theorem miblock (x1 : Option Bool) (x2 : List (List C)) : Fiblock [.one (.sl false x1 1 x2)] = bif decide ((x2.length : Int) < 2) then fr false 1 [.one (.sl true (some true) 3 []), .one (.int 0)] else ix 0 x2 ((x2[0]?).bind fun w1 => tRo [.int .u8] w1 fun n1 => cV false [.bool] (Fiwithin [.one (.int (W (n1))), .one (.int 1), .one (.int 16)]) fun b1 => bif !b1 then fr false 1 [.one (.sl true (some true) 3 []), .one (.int 0)] else ix 1 x2 ((x2[1]?).bind fun w2 => tRo [.int .u8] w2 fun n2 => bif decide ((x2.length : Int) < W ((W (n2)) + 4)) then fr false 1 [.one (.sl true (some true) 3 []), .one (.int 0)] else ix 1 x2 ((x2[1]?).bind fun w3 => tRo [.int .u8] w3 fun n3 => ix 0 x2 ((x2[0]?).bind fun w4 => tRo [.int .u8] w4 fun n4 => iterC (Riblock_6 (fun y1 y2 y3 y4 y5 y6 y7 y8 y9 y10 y11 y12 => fr false 1 [.one (.sl true y11 3 y12), .one (.int y3)]) (fun y13 y14 y15 y16 y17 y18 => bif y16 != y15 then fr false 1 [.one (.sl true (some true) 3 []), .one (.int 0)] else if 0 ≤ (0 : Int) ∧ (0 : Int) ≤ y15 ∧ y15 ≤ (y14.length : Int) then if 0 ≤ (0 : Int) ∧ (0 : Int) ≤ W (y15 + 2) ∧ W (y15 + 2) ≤ (y14.length : Int) then cV false [.sl 1] (Fisealed [.one (.sl false (cutNl y13) 1 (List.drop 0 (List.take (Int.toNat y15) y14)))]) fun o1 l1 => cV false [.bool] (FbytesEqual [.one (.sl false o1 1 (freezeRows l1)), .one (.sl false (cutNl y13) 1 (List.drop 0 (List.take (Int.toNat (W (y15 + 2))) y14)))]) fun b2 => bif !b2 then fr false 1 [.one (.sl true (some true) 3 []), .one (.int 0)] else fr false 1 [.one (.sl true y17 3 y18), .one (.int (W (y15 + 2)))] else none else none)) FUEL x1 x2 (W (2 + (W (n3)))) 2 (W (n4)) 0 (some false) [])))) := Fx.eq (by kernel_rfl)
theorem stiblock_6 : Liblock_6.Step Qiblock.E Qiblock.dr Qiblock.lp ((findLoop 6 Qiblock.code).getD .skip) := fun k nx v => by kernel_rfl
theorem okiblock : CalleeOk Go.Proofs.Try.prog 84 Siblock := Fx.ok (F := Qiblock) follows (envTy_mk tys_y2_eq) (envSpec_of (specsOk_cons okisealed (specsOk_cons okiUnpackOp (specsOk_cons okbytesEqual (specsOk_cons okiwithin specsOk_nil))))) Go.Proofs.Try.func84 (by kernel_rfl) (by kernel_rfl) (by
  rw [show subs Qiblock.code = [(findLoop 6 Qiblock.code).getD .skip] by kernel_rfl]
  exact ⟨stepAt_some (by kernel_rfl) stiblock_6, trivial⟩) (by kernel_rfl) (by kernel_rfl) rfl
theorem Fiblock_at (nl : Option Bool) (b : List Int) (h : bOk b ∧ b.length ≤ 1048576) : Fiblock [S.one (C.sl false nl 1 (b.map encB))] = some (blkRes 0 (blockB b), [S.one C.unk]) := by
  obtain ⟨hb, hl⟩ := h
  have key : Ok (Fiblock [S.one (C.sl false nl 1 (b.map encB))]) (fun r => r = (blkRes 0 (blockB b), [S.one C.unk])) := by
    rw [miblock]
    have hnone : blockB b = none → Ok (some (S.tup [S.one (C.sl true (some true) 3 []), S.one (C.int 0)], [S.one C.unk])) (fun r => r = (blkRes 0 (blockB b), [S.one C.unk])) := fun h => ok_eq rfl (by rw [h]; rfl)
    by_cases h1 : (b.length : Int) < 2
    · exact ok_of (by simp [h1]) (hnone (by rw [blockB, if_pos (.inl (by omega))]))
    have h0 : 0 < b.length := by omega
    have h1' : 1 < b.length := by omega
    have r0 := bOk_get hb h0
    have r1 := bOk_get hb h1'
    have g0 : b.getD 0 0 = b[0] := by simp [List.getD, h0]
    have g1 : b.getD 1 0 = b[1] := by simp [List.getD, h1']
    have w0 : W b[0] = b[0] := W_eq (by omega) (by omega)
    have w1 : W b[1] = b[1] := W_eq (by omega) (by omega)
    cases h2 : inB b[0] 1 16 with
    | false => exact ok_of (by simp [h1, h0, w0, Fiwithin_at, h2]) (hnone (by rw [blockB, if_pos (.inr (.inl (by rw [g0, h2])))]))
    | true =>
      have w2 : W (b[1] + 4) = b[1] + 4 := W_eq (by omega) (by omega)
      by_cases h3 : (b.length : Int) < b[1] + 4
      · exact ok_of (by simp [h1, h0, h1', w0, w1, w2, Fiwithin_at, h2, h3]) (hnone (by rw [blockB, if_pos (.inr (.inr (by rw [g1]; omega)))]))
      have hB : blockB b = match parseN (b.take (2 + b[1].toNat)) b[0].toNat 2 with
          | none => none
          | some (l, e) => if e = 2 + b[1].toNat ∧ sumB (b.take e) = 256 * b.getD e 0 + b.getD (e + 1) 0 then some (l, e + 2) else none := by
        rw [blockB, if_neg (by rw [g0, g1, h2]; simp; omega), g0, g1]
      obtain ⟨n, hn⟩ := Int.eq_ofNat_of_zero_le r0.1
      obtain ⟨m, hm⟩ := Int.eq_ofNat_of_zero_le r1.1
      obtain ⟨E, hE⟩ : ∃ E : Nat, E = 2 + m := ⟨_, rfl⟩
      obtain ⟨E2, hE2⟩ : ∃ E2 : Nat, E2 = E + 2 := ⟨_, rfl⟩
      rw [hn] at w0 h2 hB r0
      rw [hm] at w1 w2 h3 hB r1
      simp only [Int.toNat_natCast, ← hE] at hB
      have hn16 : n ≤ 16 := by have := (inB_iff.1 h2); omega
      have w3 : W (2 + (m : Int)) = (E : Int) := by rw [W_eq (by omega) (by omega)]; omega
      have w4 : W ((E : Int) + 2) = (E2 : Int) := by rw [W_eq (by omega) (by omega)]; omega
      have hEl : E ≤ b.length := by omega
      have hE2l : E2 ≤ b.length := by omega
      refine ok_of (by simp [h1, h0, h1', w0, w1, w2, w3, hn, hm, Fiwithin_at, h2, h3]; rfl) ?_
      refine iter_ok (h := hiblock_6) n (fun i (a : Nat × List OpR) f => f nl (b.map encB) (E : Int) (a.1 : Int) (n : Int) (i : Int) (some false) (a.2.map encOp)) (fun i a => a.1 ≤ E ∧ a.2.length = i ∧ pre a.2 (parseN (b.take E) (n - i) a.1) = parseN (b.take E) n 2) _ (by omega) ?_ ?_ (2, []) ⟨by simp only; omega, rfl, pre_nil _⟩
      · intro nx ⟨a, acc⟩ ⟨i1, i2, i3⟩
        simp only [Nat.sub_self, pre_zero] at i1 i2 i3
        rw [← i3] at hB
        simp only at hB
        by_cases hae : a = E
        · subst hae
          have f1 := Fisealed_at (cutNl nl) (b.take a) ⟨bOk_take hb _, by simp; omega⟩
          have hfz : freezeRows ((b.map encB).take a ++ [encB (B8 (sumB (b.take a) / 256)), encB (B8 (sumB (b.take a)))]) = (b.map encB).take a ++ [encB (B8 (sumB (b.take a) / 256)), encB (B8 (sumB (b.take a)))] := by
            have := encB_freeze (b.take a ++ [B8 (sumB (b.take a) / 256), B8 (sumB (b.take a))])
            simpa using this
          have f2 := eqBytes (some false) (cutNl nl) (b.take a ++ [B8 (sumB (b.take a) / 256), B8 (sumB (b.take a))]) (b.take E2) (bOk_app (bOk_take hb _) (fun x hx => by simp at hx; rcases hx with rfl | rfl <;> exact B8_range _)) (bOk_take hb _)
          rw [hE2, sealed_eq hb (by omega), ← hE2] at f2
          simp only [List.map_take, List.map_append, List.map_cons, List.map_nil] at f1 f2
          by_cases hs : sumB (b.take a) = 256 * b.getD a 0 + b.getD (a + 1) 0
          · rw [if_pos ⟨rfl, hs⟩] at hB
            rw [decide_eq_true hs] at f2
            have f2' := f2
            refine ok_eq (r := (blkRes 0 (blockB b), [S.one C.unk])) ?_ rfl
            rw [hB, ← hE2]
            simp [Riblock_6, w4, hEl, hE2l, f1, hfz, f2', blkRes]
          · rw [if_neg (fun h => hs h.2)] at hB
            rw [decide_eq_false hs] at f2
            have f2' := f2
            exact ok_of (by simp [Riblock_6, w4, hEl, hE2l, f1, hfz, f2']) (hnone hB)
        · rw [if_neg (fun h => hae h.1)] at hB
          have hae' : ((a : Int) != (E : Int)) = true := by simp; omega
          exact ok_of (by simp [Riblock_6, hae']) (hnone hB)
      · intro nx i ⟨a, acc⟩ hi ⟨i1, i2, i3⟩ hW hnx
        simp only at i1 i2 i3
        have f1 := FiUnpackOp_at (cutNl nl) (b.take E) a ⟨bOk_take hb _, by simp; omega, by omega⟩
        rw [List.map_take] at f1
        have hlt : (i : Int) < (n : Int) := by omega
        have hL : (acc.length + 1) * 24 ≤ LIM := by unfold LIM; omega
        obtain ⟨j, hj⟩ : ∃ j, n - i = j + 1 := ⟨n - i - 1, by omega⟩
        rw [hj] at i3
        cases hu : unOp (b.take E) a with
        | none =>
          rw [pre_none hu] at i3
          rw [← i3] at hB
          simp only [hu, unRes] at f1
          exact ok_of (by simp [Riblock_6, hlt, hEl, f1]) (hnone hB)
        | some r =>
          obtain ⟨o, a'⟩ := r
          have hle := unOp_le hu
          simp only [List.length_take] at hle
          rw [pre_cons hu, show j = n - (i + 1) by omega] at i3
          simp only [hu, unRes] at f1
          have ha' : ¬ (a' : Int) < 0 := by omega
          have := hnx (a', acc ++ [o]) ⟨by simp only; omega, by simp; omega, i3⟩
          refine ok_of ?_ this
          simp [Riblock_6, hlt, hEl, f1, ha', hL, hW]
  obtain ⟨r, h1, rfl⟩ := key
  exact h1
/-! sl17Block: loop.example/g00712/spec.l17Block -/
@[reducible] def hsl17Block_9 : Sh := ⟨[.one (.o (.sl false 1)), .one (.o (.i .i64)), .one (.o (.al 2 0 [])), .one (.o (.i .i64)), .one (.o (.i .i64))], [(true, [.o .u]), (true, [.o .u]), (true, [.o (.sl true 3)])]⟩
@[reducible] def xsl17Block_9 : List (Ex × Sh) := [(.ret, ⟨[.one (.o (.al 4 0 [])), .one (.o (.i .i64)), .one (.o (.i .i64)), .one (.o (.al 2 0 [])), .one (.o (.i .i64))], [(true, [.o .u]), (true, [.o .u]), (true, [.o (.sl true 3)]), (false, [.o (.i .i64), .o (.i .i64), .o (.i .i64)]), (true, [.o (.sl true 3)])]⟩), (.exit 0, ⟨[.one (.o .u), .one (.o .u), .one (.o (.i .i64)), .one (.o (.al 2 0 [])), .one (.o (.i .i64))], [(true, [.o .u]), (true, [.o .u]), (true, [.o (.sl true 3)])]⟩)]
noncomputable def Rsl17Block_9 : KC xsl17Block_9 (hsl17Block_9.K → hsl17Block_9.K) := fun k0 k1 nx v1 v2 v3 v4 v5 v6 v7 => ix 0 v2 ((v2[0]?).bind fun w5 => tRo [.int .u8] w5 fun n6 => bif decide (v5 < W (n6)) then if 0 ≤ (0 : Int) ∧ (0 : Int) ≤ v3 ∧ v3 ≤ (v2.length : Int) then cT [(true, [.int .i64, .int .i64, .int .i64]), (false, [.int .i64])] (FsUnpackOp [.one (.sl false (cutNl v1) 1 (List.drop 0 (List.take (Int.toNat v3) v2))), .one (.int v4)]) fun n7 n8 n9 n10 => bif decide (n10 < 0) then k0 (-1) v3 v4 v6 v7 n7 n8 n9 (some true) [] else if (v7.length + 1) * 24 ≤ LIM then nx v1 v2 v3 n10 (W (v5 + 1)) (apNl v6 [[]]) (v7 ++ [[.int n7, .int n8, .int n9]]) else none else none else k1 v3 v4 v6 v7)
noncomputable def Lsl17Block_9 : Lp := ⟨9, [0, 4, 5, 6, 7], [2, 3, 4, 5, 6], 2, 81, hsl17Block_9, xsl17Block_9, Rsl17Block_9⟩
noncomputable def Qsl17Block : Fx := ⟨Go.Proofs.Try.f88, [.ro], false, mkEnv tys_y2 [(139, SsUnpackOp), (63, Ssl01In), (78, SsSumBytes)] [], fun id => bif Nat.beq id 4 then .sq [0, 1, 2, 3, 4, 5, 6, 7, 8, 10, 11, 12, 13, 14, 15, 16, 17, 18, 19, 20, 21, 22, 9, 23, 24] .stop else .stop, [Lsl17Block_9]⟩
noncomputable def Fsl17Block : List S → Option Res := veil Qsl17Block.run
noncomputable def Ssl17Block : Spec := ⟨[.ro], false, Fsl17Block⟩
theorem msl17Block (x1 : Option Bool) (x2 : List (List C)) : Fsl17Block [.one (.sl false x1 1 x2)] = bif decide ((x2.length : Int) < 2) then fr false 1 [.one (.sl true (some true) 3 []), .one (.int (-1))] else ix 0 x2 ((x2[0]?).bind fun w1 => tRo [.int .u8] w1 fun n1 => cV false [.bool] (Fsl01In [.one (.int (W (n1))), .one (.int 1), .one (.int 16)]) fun b1 => bif !b1 then fr false 1 [.one (.sl true (some true) 3 []), .one (.int (-1))] else ix 1 x2 ((x2[1]?).bind fun w2 => tRo [.int .u8] w2 fun n2 => bif decide ((x2.length : Int) < W ((W (2 + (W (n2)))) + 2)) then fr false 1 [.one (.sl true (some true) 3 []), .one (.int (-1))] else if 0 ≤ (0 : Int) ∧ (0 : Int) ≤ W (2 + (W (n2))) ∧ W (2 + (W (n2))) ≤ (x2.length : Int) then ix (W (2 + (W (n2)))) x2 ((x2[Int.toNat (W (2 + (W (n2))))]?).bind fun w3 => tRo [.int .u8] w3 fun n3 => ix (W ((W (2 + (W (n2)))) + 1)) x2 ((x2[Int.toNat (W ((W (2 + (W (n2)))) + 1))]?).bind fun w4 => tRo [.int .u8] w4 fun n4 => cV false [.int .i64] (FsSumBytes [.one (.sl false (cutNl x1) 1 (List.drop 0 (List.take (Int.toNat (W (2 + (W (n2))))) x2)))]) fun n5 => bif n5 != W ((W (256 * (W (n3)))) + (W (n4))) then fr false 1 [.one (.sl true (some true) 3 []), .one (.int (-1))] else iterC (Rsl17Block_9 (fun y1 y2 y3 y4 y5 y6 y7 y8 y9 y10 => fr false 1 [.one (.sl true y9 3 y10), .one (.int y1)]) (fun y11 y12 y13 y14 => bif y12 != y11 then fr false 1 [.one (.sl true (some true) 3 []), .one (.int (-1))] else fr false 1 [.one (.sl true y13 3 y14), .one (.int (W (y11 + 2)))])) FUEL x1 x2 (W (2 + (W (n2)))) 2 0 (some false) [])) else none)) := Fx.eq (by kernel_rfl)
theorem stsl17Block_9 : Lsl17Block_9.Step Qsl17Block.E Qsl17Block.dr Qsl17Block.lp ((findLoop 9 Qsl17Block.code).getD .skip) := fun k nx v => by kernel_rfl
theorem oksl17Block : CalleeOk Go.Proofs.Try.prog 88 Ssl17Block := Fx.ok (F := Qsl17Block) follows (envTy_mk tys_y2_eq) (envSpec_of (specsOk_cons oksUnpackOp (specsOk_cons oksl01In (specsOk_cons oksSumBytes specsOk_nil)))) Go.Proofs.Try.func88 (by kernel_rfl) (by kernel_rfl) (by
  rw [show subs Qsl17Block.code = [(findLoop 9 Qsl17Block.code).getD .skip] by kernel_rfl]
  exact ⟨stepAt_some (by kernel_rfl) stsl17Block_9, trivial⟩) (by kernel_rfl) (by kernel_rfl) rfl
theorem Fsl17Block_at (nl : Option Bool) (b : List Int) (h : bOk b ∧ b.length ≤ 1048576) : Fsl17Block [S.one (C.sl false nl 1 (b.map encB))] = some (blkRes (-1) (blockB b), [S.one C.unk]) := by
  obtain ⟨hb, hl⟩ := h
  have key : Ok (Fsl17Block [S.one (C.sl false nl 1 (b.map encB))]) (fun r => r = (blkRes (-1) (blockB b), [S.one C.unk])) := by
    rw [msl17Block]
    have hnone : blockB b = none → Ok (some (S.tup [S.one (C.sl true (some true) 3 []), S.one (C.int (-1))], [S.one C.unk])) (fun r => r = (blkRes (-1) (blockB b), [S.one C.unk])) := fun h => ok_eq rfl (by rw [h]; rfl)
    by_cases h1 : (b.length : Int) < 2
    · exact ok_of (by simp [h1]) (hnone (by rw [blockB, if_pos (.inl (by omega))]))
    have h0 : 0 < b.length := by omega
    have h1' : 1 < b.length := by omega
    have r0 := bOk_get hb h0
    have r1 := bOk_get hb h1'
    have g0 : b.getD 0 0 = b[0] := by simp [List.getD, h0]
    have g1 : b.getD 1 0 = b[1] := by simp [List.getD, h1']
    have w0 : W b[0] = b[0] := W_eq (by omega) (by omega)
    have w1 : W b[1] = b[1] := W_eq (by omega) (by omega)
    cases h2 : inB b[0] 1 16 with
    | false => exact ok_of (by simp [h1, h0, w0, Fsl01In_at, h2]) (hnone (by rw [blockB, if_pos (.inr (.inl (by rw [g0, h2])))]))
    | true =>
      obtain ⟨n, hn⟩ := Int.eq_ofNat_of_zero_le r0.1
      obtain ⟨m, hm⟩ := Int.eq_ofNat_of_zero_le r1.1
      obtain ⟨E, hE⟩ : ∃ E : Nat, E = 2 + m := ⟨_, rfl⟩
      obtain ⟨E1, hE1⟩ : ∃ E1 : Nat, E1 = E + 1 := ⟨_, rfl⟩
      obtain ⟨E2, hE2⟩ : ∃ E2 : Nat, E2 = E + 2 := ⟨_, rfl⟩
      rw [hn] at w0 h2 r0
      rw [hm] at w1 r1
      have hn16 : n ≤ 16 := by have := (inB_iff.1 h2); omega
      have w3 : W (2 + (m : Int)) = (E : Int) := by rw [W_eq (by omega) (by omega)]; omega
      have w4 : W ((E : Int) + 2) = (E2 : Int) := by rw [W_eq (by omega) (by omega)]; omega
      have w5 : W ((E : Int) + 1) = (E1 : Int) := by rw [W_eq (by omega) (by omega)]; omega
      by_cases h3 : (b.length : Int) < (E2 : Int)
      · exact ok_of (by simp [h1, h0, h1', w0, w1, w3, w4, hn, hm, Fsl01In_at, h2, h3]) (hnone (by rw [blockB, if_pos (.inr (.inr (by rw [g1, hm]; omega)))]))
      have hEl : E ≤ b.length := by omega
      have hEl' : E < b.length := by omega
      have hE1l : E1 < b.length := by omega
      have hB : blockB b = match parseN (b.take E) n 2 with
          | none => none
          | some (l, e) => if e = E ∧ sumB (b.take e) = 256 * b.getD e 0 + b.getD (e + 1) 0 then some (l, e + 2) else none := by
        rw [blockB, if_neg (by rw [g0, g1, hn, hm, h2]; simp; omega), g0, g1, hn, hm]
        simp only [Int.toNat_natCast, ← hE]
      have re := bOk_get hb hEl'
      have re1 := bOk_get hb hE1l
      have ge : b.getD E 0 = b[E] := by simp [List.getD, hEl']
      have ge1 : b.getD (E + 1) 0 = b[E1] := by rw [← hE1]; simp [List.getD, hE1l]
      have w6 : W b[E] = b[E] := W_eq (by omega) (by omega)
      have w7 : W b[E1] = b[E1] := W_eq (by omega) (by omega)
      have w8 : W (256 * b[E]) = 256 * b[E] := W_eq (by omega) (by omega)
      have w9 : W (256 * b[E] + b[E1]) = 256 * b[E] + b[E1] := W_eq (by omega) (by omega)
      have f1 := FsSumBytes_at (cutNl nl) (b.take E) ⟨bOk_take hb _, by simp; omega⟩
      rw [List.map_take] at f1
      by_cases hs : sumB (b.take E) = 256 * b[E] + b[E1]
      case neg =>
        have hs' : (sumB (b.take E) != 256 * b[E] + b[E1]) = true := by simpa using hs
        refine ok_of (by simp [h1, h0, h1', w0, w1, w3, w4, w5, w6, w7, w8, w9, hn, hm, Fsl01In_at, h2, h3, hEl, hEl', hE1l, f1, hs']) (hnone ?_)
        rw [hB]
        cases parseN (b.take E) n 2 with
        | none => rfl
        | some r =>
          simp only
          rw [if_neg]
          rintro ⟨e, h⟩
          rw [e, ge, ge1] at h
          exact hs h
      have hs' : (sumB (b.take E) != 256 * b[E] + b[E1]) = false := by simpa using hs
      refine ok_of (by simp [h1, h0, h1', w0, w1, w3, w4, w5, w6, w7, w8, w9, hn, hm, Fsl01In_at, h2, h3, hEl, hEl', hE1l, f1, hs']; rfl) ?_
      refine iter_ok (h := hsl17Block_9) n (fun i (a : Nat × List OpR) f => f nl (b.map encB) (E : Int) (a.1 : Int) (i : Int) (some false) (a.2.map encOp)) (fun i a => a.1 ≤ E ∧ a.2.length = i ∧ pre a.2 (parseN (b.take E) (n - i) a.1) = parseN (b.take E) n 2) _ (by omega) ?_ ?_ (2, []) ⟨by simp only; omega, rfl, pre_nil _⟩
      · intro nx ⟨a, acc⟩ ⟨i1, i2, i3⟩
        simp only [Nat.sub_self, pre_zero] at i1 i2 i3
        rw [← i3] at hB
        simp only at hB
        by_cases hae : a = E
        · subst hae
          rw [if_pos ⟨rfl, by rw [ge, ge1]; exact hs⟩] at hB
          refine ok_eq (r := (blkRes (-1) (blockB b), [S.one C.unk])) ?_ rfl
          rw [hB, ← hE2]
          simp [Rsl17Block_9, h0, hn, w0, w4, blkRes]
        · rw [if_neg (fun h => hae h.1)] at hB
          have hae' : ((a : Int) != (E : Int)) = true := by simp; omega
          exact ok_of (by simp [Rsl17Block_9, h0, hn, w0, hae']) (hnone hB)
      · intro nx i ⟨a, acc⟩ hi ⟨i1, i2, i3⟩ hW hnx
        simp only at i1 i2 i3
        have f1 := FsUnpackOp_at (cutNl nl) (b.take E) a ⟨bOk_take hb _, by simp; omega, by omega⟩
        rw [List.map_take] at f1
        have hlt : (i : Int) < (n : Int) := by omega
        have hL : (acc.length + 1) * 24 ≤ LIM := by unfold LIM; omega
        obtain ⟨j, hj⟩ : ∃ j, n - i = j + 1 := ⟨n - i - 1, by omega⟩
        rw [hj] at i3
        cases hu : unOp (b.take E) a with
        | none =>
          rw [pre_none hu] at i3
          rw [← i3] at hB
          simp only [hu, unRes] at f1
          exact ok_of (by simp [Rsl17Block_9, h0, hn, w0, hlt, hEl, f1]) (hnone hB)
        | some r =>
          obtain ⟨o, a'⟩ := r
          have hle := unOp_le hu
          simp only [List.length_take] at hle
          rw [pre_cons hu, show j = n - (i + 1) by omega] at i3
          simp only [hu, unRes] at f1
          have ha' : ¬ (a' : Int) < 0 := by omega
          have := hnx (a', acc ++ [o]) ⟨by simp only; omega, by simp; omega, i3⟩
          refine ok_of ?_ this
          simp [Rsl17Block_9, h0, hn, w0, hlt, hEl, f1, ha', hL, hW]
  obtain ⟨r, h1, rfl⟩ := key
  exact h1
end Go.Proofs.Gh.Gm
set_option linter.unusedVariables false
set_option linter.unusedSimpArgs false
set_option maxRecDepth 100000
set_option maxHeartbeats 2000000
namespace Go.Proofs.Gh.Gm
def tys_y3 : List (Nat × TI) := [(3, ⟨false, 8, [.int .i64], [.int 0], .scalar, false, none⟩),
  (4, ⟨false, 1, [.bool], [.bool false], .scalar, false, none⟩),
  (5, ⟨false, 1, [.int .u8], [.v (.int .u8 0)], .scalar, false, none⟩),
  (38, ⟨false, 24, [.sl 1], [.sl true (some true) 1 []], .slice 5, false, none⟩),
  (40, ⟨false, 24, [.sl 3], [.sl true (some true) 3 []], .slice 104, false, none⟩),
  (104, ⟨true, 24, [.int .i64, .int .i64, .int .i64], [.int 0, .int 0, .int 0], .struct [(0, 1, false), (1, 1, false), (2, 1, false)], true, none⟩),
  (110, ⟨false, 0, [], [], .tuple [40, 3], false, none⟩)]
theorem tys_y3_eq : tys_y3.map (fun x => tiOf Go.Proofs.Try.prog x.1 x.2.cks) = tys_y3.map fun x => some x.2 := by kernel_rfl
theorem blockB_le {b : List Int} {r : List OpR × Nat} (h : blockB b = some r) : 4 ≤ r.2 ∧ r.2 ≤ b.length ∧ r.1.length ≤ 16 ∧ 1 ≤ r.1.length ∧ 2 ≤ b.length := by
  unfold blockB at h
  split at h
  · cases h
  · rename_i hn
    split at h
    · cases h
    · rename_i l e hp
      have hp := parseN_le hp
      split at h
      · rename_i he
        cases h
        have h2 : inB (b.getD 0 0) 1 16 = true := by
          cases h3 : inB (b.getD 0 0) 1 16 with
          | true => rfl
          | false => exact absurd (.inr (.inl h3)) hn
        have h2 := inB_iff.1 h2
        simp only [List.length_take] at hp ⊢
        omega
      · cases h
def scanF : Nat → List Int → List OpR × Nat
  | 0, _ => ([], 0)
  | f + 1, b => match blockB b with
    | none => ([], 0)
    | some (l, k) => (l ++ (scanF f (b.drop k)).1, k + (scanF f (b.drop k)).2)
theorem scanF_none {b : List Int} (h : blockB b = none) (f : Nat) : scanF f b = ([], 0) := by
  cases f with
  | zero => rfl
  | succ f => rw [scanF, h]
theorem scanF_some {b l : List _} {k f : Nat} (h : blockB b = some (l, k)) : scanF (f + 1) b = (l ++ (scanF f (b.drop k)).1, k + (scanF f (b.drop k)).2) := by rw [scanF, h]
/-- More rounds than bytes find no more. -/
theorem scanF_len {b : List Int} {f g : Nat} (hf : b.length ≤ f) (hg : b.length ≤ g) : scanF f b = scanF g b := by
  induction f generalizing b g with
  | zero =>
    have : b = [] := List.length_eq_zero_iff.1 (by omega)
    subst this
    rw [scanF_none (by rfl), scanF_none (by rfl)]
  | succ f ih =>
    cases hb : blockB b with
    | none => rw [scanF_none hb, scanF_none hb]
    | some r =>
      obtain ⟨l, k⟩ := r
      have hk := blockB_le hb
      simp only at hk
      obtain ⟨g', rfl⟩ : ∃ g', g = g' + 1 := ⟨g - 1, by omega⟩
      have hl : (b.drop k).length ≤ f := by rw [List.length_drop]; omega
      have hl' : (b.drop k).length ≤ g' := by rw [List.length_drop]; omega
      rw [scanF_some hb, scanF_some hb, ih hl hl']
def scan (b : List Int) : List OpR × Nat := scanF b.length b
def kindB (r : List Int) : Int := match r with
  | [] => 0
  | [_] => 1
  | x :: y :: t => bif inB x 1 16 && (inB y 1 32 && decide (((x :: y :: t).length : Int) < y + 4)) then 1 else 2
def scanRes (b : List Int) : S :=
  if 4000 < b.length then S.tup [S.one (C.sl true (some true) 3 []), S.one (C.int 0), S.one (C.int 2)]
  else S.tup [S.one (C.sl true (some false) 3 ((scan b).1.map encOp)), S.one (C.int ((scan b).2 : Nat)), S.one (C.int (kindB (b.drop (scan b).2)))]
/-- Where a scan stands. -/
def scanAt (b : List Int) (i : Nat) (a : Nat × List OpR) : Prop :=
  a.1 ≤ b.length ∧ 4 * i ≤ a.1 ∧ a.2.length ≤ 16 * i ∧ (a.2 ++ (scanF (b.drop a.1).length (b.drop a.1)).1, a.1 + (scanF (b.drop a.1).length (b.drop a.1)).2) = scan b
theorem scanAt_zero (b : List Int) : scanAt b 0 (0, []) := ⟨by simp, by simp, by simp, by simp [scan]⟩
theorem scanAt_end {b : List Int} {i : Nat} {a : Nat × List OpR} (h : scanAt b i a) (hn : blockB (b.drop a.1) = none) : scan b = (a.2, a.1) := by
  rw [← h.2.2.2, scanF_none hn]; simp
theorem scanAt_next {b : List Int} {i : Nat} {a : Nat × List OpR} {l : List OpR} {k : Nat} (h : scanAt b i a) (hs : blockB (b.drop a.1) = some (l, k)) : scanAt b (i + 1) (a.1 + k, a.2 ++ l) := by
  obtain ⟨h1, h2, h3, h4⟩ := h
  have hk := blockB_le hs
  simp only [List.length_drop] at hk
  refine ⟨by simp only; omega, by simp only; omega, by simp only [List.length_append]; omega, ?_⟩
  rw [← h4]
  have hp : (b.drop a.1).length = (b.drop a.1).length - 1 + 1 := by rw [List.length_drop]; omega
  have hd : ((b.drop a.1).drop k) = b.drop (a.1 + k) := by rw [List.drop_drop]
  rw [hp, scanF_some hs, hd, scanF_len (f := (b.drop a.1).length - 1) (g := (b.drop (a.1 + k)).length) (by simp only [List.length_drop]; omega) (Nat.le_refl _)]
  simp only [List.append_assoc, Nat.add_assoc]
@[simp] theorem encOp_V (l : List OpR) : rowsV (l.map encOp) = true := by
  simp [rowsV, C.isV]
/-! iScanOps: loop.example/g00712/impl.ScanOps -/
@[reducible] def hiScanOps_4 : Sh := ⟨[.one (.o (.sl false 1)), .one (.o (.al 2 0 [])), .one (.o (.i .i64))], [(true, [.o .u]), (true, [.o .u]), (true, [.o (.sl true 3)])]⟩
@[reducible] def xiScanOps_4 : List (Ex × Sh) := [(.exit 0, ⟨[.one (.o (.sl false 1)), .one (.o (.al 2 0 [])), .one (.o (.i .i64))], [(true, [.o .u]), (true, [.o .u]), (true, [.o (.sl true 3)]), (true, [.o (.sl true 3)])]⟩)]
noncomputable def RiScanOps_4 : KC xiScanOps_4 (hiScanOps_4.K → hiScanOps_4.K) := fun k0 nx v1 v2 v3 v4 v5 => if 0 ≤ v3 ∧ v3 ≤ ((v2.length : Nat) : Int) ∧ ((v2.length : Nat) : Int) ≤ (v2.length : Int) then cT [(false, [.sl 3]), (false, [.int .i64])] (Fiblock [.one (.sl false (cutNl v1) 1 (List.drop (Int.toNat v3) (List.take (Int.toNat (v2.length : Int)) v2)))]) fun o1 l1 n1 => bif n1 == 0 then k0 v1 v2 v3 v4 v5 o1 l1 else if (true && !rowsV l1) = true then none else if (v5.length + l1.length) * 24 ≤ LIM then nx v1 v2 (W (v3 + n1)) (apNl v4 l1) (v5 ++ l1) else none else none
noncomputable def LiScanOps_4 : Lp := ⟨4, [0, 5, 6], [0, 5, 6], 2, 70, hiScanOps_4, xiScanOps_4, RiScanOps_4⟩
noncomputable def QiScanOps : Fx := ⟨Go.Proofs.Try.f35, [.ro], false, mkEnv tys_y3 [(84, Siblock), (85, Siwithin)] [], fun _ => .stop, [LiScanOps_4]⟩
noncomputable def FiScanOps : List S → Option Res := veil QiScanOps.run
noncomputable def SiScanOps : Spec := ⟨[.ro], false, FiScanOps⟩
theorem miScanOps (x1 : Option Bool) (x2 : List (List C)) : FiScanOps [.one (.sl false x1 1 x2)] = bif decide ((x2.length : Int) > 4000) then fr false 1 [.one (.sl true (some true) 3 []), .one (.int 0), .one (.int 2)] else iterC (RiScanOps_4 (fun y1 y2 y3 y4 y5 y6 y7 => if 0 ≤ y3 ∧ y3 ≤ ((y2.length : Nat) : Int) ∧ ((y2.length : Nat) : Int) ≤ (y2.length : Int) then (let q1 : Option Res := fr false 1 [.one (.sl true y4 3 y5), .one (.int y3), .one (.int 2)]; bif ((List.drop (Int.toNat y3) (List.take (Int.toNat (y2.length : Int)) y2)).length : Int) == 0 then fr false 1 [.one (.sl true y4 3 y5), .one (.int y3), .one (.int 0)] else bif decide (((List.drop (Int.toNat y3) (List.take (Int.toNat (y2.length : Int)) y2)).length : Int) < 2) then fr false 1 [.one (.sl true y4 3 y5), .one (.int y3), .one (.int 1)] else ix 0 (List.drop (Int.toNat y3) (List.take (Int.toNat (y2.length : Int)) y2)) (((List.drop (Int.toNat y3) (List.take (Int.toNat (y2.length : Int)) y2))[0]?).bind fun w1 => tRo [.int .u8] w1 fun n1 => cV false [.bool] (Fiwithin [.one (.int (W (n1))), .one (.int 1), .one (.int 16)]) fun b1 => bif b1 then ix 1 (List.drop (Int.toNat y3) (List.take (Int.toNat (y2.length : Int)) y2)) (((List.drop (Int.toNat y3) (List.take (Int.toNat (y2.length : Int)) y2))[1]?).bind fun w2 => tRo [.int .u8] w2 fun n2 => cV false [.bool] (Fiwithin [.one (.int (W (n2))), .one (.int 1), .one (.int 32)]) fun b2 => bif b2 then ix 1 (List.drop (Int.toNat y3) (List.take (Int.toNat (y2.length : Int)) y2)) (((List.drop (Int.toNat y3) (List.take (Int.toNat (y2.length : Int)) y2))[1]?).bind fun w3 => tRo [.int .u8] w3 fun n3 => bif decide (((List.drop (Int.toNat y3) (List.take (Int.toNat (y2.length : Int)) y2)).length : Int) < W ((W (n3)) + 4)) then fr false 1 [.one (.sl true y4 3 y5), .one (.int y3), .one (.int 1)] else q1) else q1) else q1)) else none)) FUEL x1 x2 0 (some false) [] := Fx.eq (by kernel_rfl)
theorem stiScanOps_4 : LiScanOps_4.Step QiScanOps.E QiScanOps.dr QiScanOps.lp ((findLoop 4 QiScanOps.code).getD .skip) := fun k nx v => by kernel_rfl
theorem okiScanOps : CalleeOk Go.Proofs.Try.prog 35 SiScanOps := Fx.ok (F := QiScanOps) follows (envTy_mk tys_y3_eq) (envSpec_of (specsOk_cons okiblock (specsOk_cons okiwithin specsOk_nil))) Go.Proofs.Try.func35 (by kernel_rfl) (by kernel_rfl) (by
  rw [show subs QiScanOps.code = [(findLoop 4 QiScanOps.code).getD .skip] by kernel_rfl]
  exact ⟨stepAt_some (by kernel_rfl) stiScanOps_4, trivial⟩) (by kernel_rfl) (by kernel_rfl) rfl
theorem FiScanOps_at (nl : Option Bool) (b : List Int) (h : bOk b ∧ b.length ≤ 1048576) : FiScanOps [S.one (C.sl false nl 1 (b.map encB))] = some (scanRes b, [S.one C.unk]) := by
  obtain ⟨hb, hl⟩ := h
  have key : Ok (FiScanOps [S.one (C.sl false nl 1 (b.map encB))]) (fun r => r = (scanRes b, [S.one C.unk])) := by
    rw [miScanOps]
    by_cases h4 : (b.length : Int) > 4000
    · refine ok_eq (r := (scanRes b, [S.one C.unk])) ?_ rfl
      rw [scanRes, if_pos (by omega)]
      simp [h4]
    have hr : scanRes b = S.tup [S.one (C.sl true (some false) 3 ((scan b).1.map encOp)), S.one (C.int ((scan b).2 : Nat)), S.one (C.int (kindB (b.drop (scan b).2)))] := by rw [scanRes, if_neg (by omega)]
    have hT : (b.map encB).take b.length = b.map encB := List.take_of_length_le (by simp)
    simp only [List.length_map, h4, decide_false, cond_false]
    have hex : ∀ nx i a acc, scanAt b i (a, acc) → blockB (b.drop a) = none → Ok (RiScanOps_4 (fun y1 y2 y3 y4 y5 y6 y7 => if 0 ≤ y3 ∧ y3 ≤ ((y2.length : Nat) : Int) ∧ ((y2.length : Nat) : Int) ≤ (y2.length : Int) then (let q1 : Option Res := fr false 1 [.one (.sl true y4 3 y5), .one (.int y3), .one (.int 2)]; bif ((List.drop (Int.toNat y3) (List.take (Int.toNat (y2.length : Int)) y2)).length : Int) == 0 then fr false 1 [.one (.sl true y4 3 y5), .one (.int y3), .one (.int 0)] else bif decide (((List.drop (Int.toNat y3) (List.take (Int.toNat (y2.length : Int)) y2)).length : Int) < 2) then fr false 1 [.one (.sl true y4 3 y5), .one (.int y3), .one (.int 1)] else ix 0 (List.drop (Int.toNat y3) (List.take (Int.toNat (y2.length : Int)) y2)) (((List.drop (Int.toNat y3) (List.take (Int.toNat (y2.length : Int)) y2))[0]?).bind fun w1 => tRo [.int .u8] w1 fun n1 => cV false [.bool] (Fiwithin [.one (.int (W (n1))), .one (.int 1), .one (.int 16)]) fun b1 => bif b1 then ix 1 (List.drop (Int.toNat y3) (List.take (Int.toNat (y2.length : Int)) y2)) (((List.drop (Int.toNat y3) (List.take (Int.toNat (y2.length : Int)) y2))[1]?).bind fun w2 => tRo [.int .u8] w2 fun n2 => cV false [.bool] (Fiwithin [.one (.int (W (n2))), .one (.int 1), .one (.int 32)]) fun b2 => bif b2 then ix 1 (List.drop (Int.toNat y3) (List.take (Int.toNat (y2.length : Int)) y2)) (((List.drop (Int.toNat y3) (List.take (Int.toNat (y2.length : Int)) y2))[1]?).bind fun w3 => tRo [.int .u8] w3 fun n3 => bif decide (((List.drop (Int.toNat y3) (List.take (Int.toNat (y2.length : Int)) y2)).length : Int) < W ((W (n3)) + 4)) then fr false 1 [.one (.sl true y4 3 y5), .one (.int y3), .one (.int 1)] else q1) else q1) else q1)) else none) nx nl (b.map encB) (a : Int) (some false) (acc.map encOp)) (fun r => r = (scanRes b, [S.one C.unk])) := by
      intro nx i a acc hA hn
      have he := scanAt_end hA hn
      rw [he] at hr
      obtain ⟨a1, a2, a3, _⟩ := hA
      simp only at a1 a2 a3 he hr hn
      have f1 := Fiblock_at (cutNl nl) (b.drop a) ⟨bOk_drop hb _, by simp only [List.length_drop]; omega⟩
      simp only [hn, blkRes] at f1
      have hrb := bOk_drop hb a
      have hrl : (b.drop a).length ≤ 4000 := by rw [List.length_drop]; omega
      have hd : (b.map encB).drop a = (b.drop a).map encB := List.map_drop.symm
      generalize b.drop a = r at *
      refine ok_eq (r := (scanRes b, [S.one C.unk])) ?_ rfl
      rw [hr]
      match r, hrb, hrl with
      | [], _, _ =>
        simp only [List.map_nil] at f1
        simp [RiScanOps_4, a1, hT, hd, f1, kindB]
      | [x], _, _ =>
        simp only [List.map_cons, List.map_nil] at f1
        simp [RiScanOps_4, a1, hT, hd, f1, kindB]
      | x :: y :: t, hrb, hrl =>
        have hx := hrb x (by simp)
        have hy := hrb y (by simp)
        have w1 : W x = x := W_eq (by omega) (by omega)
        have w2 : W y = y := W_eq (by omega) (by omega)
        have w3 : W (y + 4) = y + 4 := W_eq (by omega) (by omega)
        have q1 : ¬ ((t.length : Int) + 1 + 1 < 2) := by omega
        have q2 : ((t.length : Int) + 1 + 1 == 0) = false := by simp; omega
        have q3 : (0 : Int) < (t.length : Int) + 1 + 1 := by omega
        have q4 : (1 : Int) < (t.length : Int) + 1 + 1 := by omega
        simp only [List.map_cons] at f1
        cases i1 : inB x 1 16 <;> cases i2 : inB y 1 32 <;> by_cases i3 : ((t.length : Int) + 1 + 1 < y + 4) <;> simp [RiScanOps_4, a1, hT, hd, f1, kindB, w1, w2, w3, i1, i2, i3, q1, q2, q3, q4, Fiwithin_at, ix]
    refine iter_ok (h := hiScanOps_4) b.length (fun i (a : Nat × List OpR) f => f nl (b.map encB) (a.1 : Int) (some false) (a.2.map encOp)) (scanAt b) _ (by omega) ?_ ?_ (0, []) (scanAt_zero b)
    · intro nx ⟨a, acc⟩ hA
      refine hex nx _ a acc hA ?_
      cases hn : blockB (b.drop a) with
      | none => rfl
      | some r =>
        have := blockB_le hn
        have h1 := hA.1
        have h2 := hA.2.1
        simp only [List.length_drop] at this h1 h2
        omega
    · intro nx i ⟨a, acc⟩ hi hA hW hnx
      cases hn : blockB (b.drop a) with
      | none => exact hex nx i a acc hA hn
      | some r =>
        obtain ⟨l, k⟩ := r
        have hk := blockB_le hn
        have := hnx _ (scanAt_next hA hn)
        obtain ⟨a1, a2, a3, _⟩ := hA
        simp only [List.length_drop] at hk a1 a2 a3 this
        have f1 := Fiblock_at (cutNl nl) (b.drop a) ⟨bOk_drop hb _, by simp only [List.length_drop]; omega⟩
        simp only [hn, blkRes, List.map_drop] at f1
        have hk0 : ((k : Int) == 0) = false := by simp; omega
        have hL : (acc.length + l.length) * 24 ≤ LIM := by unfold LIM; omega
        have hw : W ((a : Int) + (k : Int)) = ((a + k : Nat) : Int) := by rw [W_eq (by omega) (by omega)]; omega
        refine ok_of ?_ this
        simp [-Int.natCast_add, RiScanOps_4, a1, hT, f1, hk0, hL, hw]
  obtain ⟨r, h1, rfl⟩ := key
  exact h1
/-! sScanOps: loop.example/g00712/spec.ScanOps -/
@[reducible] def hsScanOps_9 : Sh := ⟨[.one (.o (.sl false 1)), .one (.o (.al 4 0 [])), .one (.o (.i .i64)), .one (.o (.al 5 0 [])), .one (.o (.i .i64)), .one (.o (.i .i64))], [(true, [.o .u]), (true, [.o .u]), (true, [.o .u]), (true, [.o .u]), (true, [.o (.sl true 3)]), (true, [.o (.sl true 3)])]⟩
@[reducible] def xsScanOps_9 : List (Ex × Sh) := [(.exit 2, ⟨[.one (.o (.sl false 1)), .one (.o (.al 4 0 [])), .one (.o (.i .i64)), .one (.o (.i .i64))], [(true, [.o .u]), (true, [.o .u]), (true, [.o .u]), (true, [.o .u]), (true, [.o (.sl true 3)]), (true, [.o (.sl true 3)])]⟩)]
noncomputable def RsScanOps_9 : KC xsScanOps_9 (hsScanOps_9.K → hsScanOps_9.K) := fun k0 nx v1 v2 v3 v4 v5 v6 v7 v8 v9 => bif decide (v5 < (v9.length : Int)) then ix v5 v9 ((v9[Int.toNat v5]?).bind fun w1 => tOwn [.int .i64, .int .i64, .int .i64] w1 fun n2 n3 n4 => if (v7.length + 1) * 24 ≤ LIM then nx v1 v2 v3 v4 (W (v5 + 1)) (apNl v6 [[]]) (v7 ++ [[.int n2, .int n3, .int n4]]) v8 v9 else none) else k0 v1 v2 v3 v4 v6 v7 v8 v9
noncomputable def LsScanOps_9 : Lp := ⟨9, [0, 5, 6, 7, 8, 9], [0, 5, 6, 8], 4, 83, hsScanOps_9, xsScanOps_9, RsScanOps_9⟩
@[reducible] def hsScanOps_5 : Sh := ⟨[.one (.o (.sl false 1)), .one (.o (.al 2 0 [])), .one (.o (.i .i64))], [(true, [.o .u]), (true, [.o .u]), (true, [.o (.sl true 3)])]⟩
@[reducible] def xsScanOps_5 : List (Ex × Sh) := [(.exit 0, ⟨[.one (.o (.sl false 1)), .one (.o (.al 2 0 [])), .one (.o (.i .i64))], [(true, [.o .u]), (true, [.o .u]), (true, [.o (.sl true 3)]), (true, [.o (.sl true 3)])]⟩), (.exit 0, ⟨[.one (.o (.sl false 1)), .one (.o (.al 2 0 [])), .one (.o (.i .i64))], [(true, [.o .u]), (true, [.o .u]), (true, [.o (.sl true 3)])]⟩)]
noncomputable def RsScanOps_5 : KC xsScanOps_5 (hsScanOps_5.K → hsScanOps_5.K) := fun k0 k1 nx v1 v2 v3 v4 v5 => bif decide (v3 < (v2.length : Int)) then if 0 ≤ v3 ∧ v3 ≤ ((v2.length : Nat) : Int) ∧ ((v2.length : Nat) : Int) ≤ (v2.length : Int) then cT [(false, [.sl 3]), (false, [.int .i64])] (Fsl17Block [.one (.sl false (cutNl v1) 1 (List.drop (Int.toNat v3) (List.take (Int.toNat (v2.length : Int)) v2)))]) fun o1 l1 n1 => bif decide (n1 < 0) then k0 v1 v2 v3 v4 v5 o1 l1 else iterC (RsScanOps_9 (fun y1 y2 y3 y4 y5 y6 y7 y8 => nx y1 y2 (W (y3 + y4)) y5 y6)) FUEL v1 v2 v3 n1 0 v4 v5 o1 l1 else none else k1 v1 v2 v3 v4 v5
noncomputable def LsScanOps_5 : Lp := ⟨5, [0, 5, 6], [0, 5, 6], 2, 83, hsScanOps_5, xsScanOps_5, RsScanOps_5⟩
noncomputable def QsScanOps : Fx := ⟨Go.Proofs.Try.f38, [.ro], false, mkEnv tys_y3 [(63, Ssl01In), (88, Ssl17Block)] [], fun _ => .stop, [LsScanOps_9, LsScanOps_5]⟩
noncomputable def FsScanOps : List S → Option Res := veil QsScanOps.run
noncomputable def SsScanOps : Spec := ⟨[.ro], false, FsScanOps⟩
theorem msScanOps (x1 : Option Bool) (x2 : List (List C)) : FsScanOps [.one (.sl false x1 1 x2)] = bif decide ((x2.length : Int) > 4000) then fr false 1 [.one (.sl true (some true) 3 []), .one (.int 0), .one (.int 2)] else (let q1 : (Option Bool) → (List (List C)) → Int → (Option Bool) → (List (List C)) → Option Res := fun z1 z2 z3 z4 z5 => if 0 ≤ z3 ∧ z3 ≤ ((z2.length : Nat) : Int) ∧ ((z2.length : Nat) : Int) ≤ (z2.length : Int) then bif ((List.drop (Int.toNat z3) (List.take (Int.toNat (z2.length : Int)) z2)).length : Int) == 0 then fr false 1 [.one (.sl true z4 3 z5), .one (.int z3), .one (.int 0)] else bif decide (((List.drop (Int.toNat z3) (List.take (Int.toNat (z2.length : Int)) z2)).length : Int) < 2) then fr false 1 [.one (.sl true z4 3 z5), .one (.int z3), .one (.int 1)] else (let q2 : Option Res := fr false 1 [.one (.sl true z4 3 z5), .one (.int z3), .one (.int 2)]; ix 0 (List.drop (Int.toNat z3) (List.take (Int.toNat (z2.length : Int)) z2)) (((List.drop (Int.toNat z3) (List.take (Int.toNat (z2.length : Int)) z2))[0]?).bind fun w1 => tRo [.int .u8] w1 fun n1 => cV false [.bool] (Fsl01In [.one (.int (W (n1))), .one (.int 1), .one (.int 16)]) fun b1 => bif b1 then ix 1 (List.drop (Int.toNat z3) (List.take (Int.toNat (z2.length : Int)) z2)) (((List.drop (Int.toNat z3) (List.take (Int.toNat (z2.length : Int)) z2))[1]?).bind fun w2 => tRo [.int .u8] w2 fun n2 => cV false [.bool] (Fsl01In [.one (.int (W (n2))), .one (.int 1), .one (.int 32)]) fun b2 => bif b2 then ix 1 (List.drop (Int.toNat z3) (List.take (Int.toNat (z2.length : Int)) z2)) (((List.drop (Int.toNat z3) (List.take (Int.toNat (z2.length : Int)) z2))[1]?).bind fun w3 => tRo [.int .u8] w3 fun n3 => bif decide (((List.drop (Int.toNat z3) (List.take (Int.toNat (z2.length : Int)) z2)).length : Int) < W ((W (n3)) + 4)) then fr false 1 [.one (.sl true z4 3 z5), .one (.int z3), .one (.int 1)] else q2) else q2) else q2)) else none; iterC (RsScanOps_5 (fun y1 y2 y3 y4 y5 y6 y7 => q1 y1 y2 y3 y4 y5) (fun y8 y9 y10 y11 y12 => q1 y8 y9 y10 y11 y12)) FUEL x1 x2 0 (some false) []) := Fx.eq (by kernel_rfl)
theorem stsScanOps_9 : LsScanOps_9.Step QsScanOps.E QsScanOps.dr QsScanOps.lp ((findLoop 9 QsScanOps.code).getD .skip) := fun k nx v => by kernel_rfl
theorem stsScanOps_5 : LsScanOps_5.Step QsScanOps.E QsScanOps.dr QsScanOps.lp ((findLoop 5 QsScanOps.code).getD .skip) := fun k nx v => by kernel_rfl
theorem oksScanOps : CalleeOk Go.Proofs.Try.prog 38 SsScanOps := Fx.ok (F := QsScanOps) follows (envTy_mk tys_y3_eq) (envSpec_of (specsOk_cons oksl01In (specsOk_cons oksl17Block specsOk_nil))) Go.Proofs.Try.func38 (by kernel_rfl) (by kernel_rfl) (by
  rw [show subs QsScanOps.code = [(findLoop 5 QsScanOps.code).getD .skip, (findLoop 9 QsScanOps.code).getD .skip] by kernel_rfl]
  exact ⟨stepAt_some (by kernel_rfl) stsScanOps_5, stepAt_some (by kernel_rfl) stsScanOps_9, trivial⟩) (by kernel_rfl) (by kernel_rfl) rfl
theorem in_scan (k : Int) (a : Nat) (nl nl2 : Option Bool) (B : List (List C)) (acc l : List OpR) (hl : l.length ≤ 16) (ha : acc.length ≤ 1048576) (K) :
    iterC (RsScanOps_9 K) FUEL nl B (a : Int) k 0 (some false) (acc.map encOp) nl2 (l.map encOp) = K nl B (a : Int) k (some false) ((acc ++ l).map encOp) nl2 (l.map encOp) := by
  refine (iter_fold (h := hsScanOps_9) l (fun i (x : List OpR) f => f nl B (a : Int) k (i : Int) (some false) (x.map encOp) nl2 (l.map encOp)) (fun x o => x ++ [o]) (fun x => K nl B (a : Int) k (some false) (x.map encOp) nl2 (l.map encOp)) (fun i x => x.length = acc.length + i) (by omega) ?_ ?_ acc (by omega)).trans ?_
  · intro nx x _; simp [RsScanOps_9]
  · intro nx i x hi hx hW
    have hL : (x.length + 1) * 24 ≤ LIM := by unfold LIM; omega
    exact ⟨by simp; omega, by simp [RsScanOps_9, hi, hL, hW]⟩
  · rw [foldl_snoc]
theorem FsScanOps_at (nl : Option Bool) (b : List Int) (h : bOk b ∧ b.length ≤ 1048576) : FsScanOps [S.one (C.sl false nl 1 (b.map encB))] = some (scanRes b, [S.one C.unk]) := by
  obtain ⟨hb, hl⟩ := h
  have key : Ok (FsScanOps [S.one (C.sl false nl 1 (b.map encB))]) (fun r => r = (scanRes b, [S.one C.unk])) := by
    rw [msScanOps]
    by_cases h4 : (b.length : Int) > 4000
    · refine ok_eq (r := (scanRes b, [S.one C.unk])) ?_ rfl
      rw [scanRes, if_pos (by omega)]
      simp [h4]
    have hr : scanRes b = S.tup [S.one (C.sl true (some false) 3 ((scan b).1.map encOp)), S.one (C.int ((scan b).2 : Nat)), S.one (C.int (kindB (b.drop (scan b).2)))] := by rw [scanRes, if_neg (by omega)]
    have hT : (b.map encB).take b.length = b.map encB := List.take_of_length_le (by simp)
    simp -zeta -zetaHave only [List.length_map, h4, decide_false, cond_false]
    extract_lets -underBinder q1
    have hq : ∀ i a acc, scanAt b i (a, acc) → blockB (b.drop a) = none → Ok (q1 nl (b.map encB) (a : Int) (some false) (acc.map encOp)) (fun r => r = (scanRes b, [S.one C.unk])) := by
      intro i a acc hA hn
      have he := scanAt_end hA hn
      rw [he] at hr
      obtain ⟨a1, a2, a3, _⟩ := hA
      simp only at a1 a2 a3 he hr hn
      have hrb := bOk_drop hb a
      have hrl : (b.drop a).length ≤ 4000 := by rw [List.length_drop]; omega
      have hd : (b.map encB).drop a = (b.drop a).map encB := List.map_drop.symm
      generalize b.drop a = r at *
      refine ok_eq (r := (scanRes b, [S.one C.unk])) ?_ rfl
      rw [hr]
      simp only [q1, Int.toNat_natCast, List.length_map, hT, hd]
      clear hd hT q1
      match r, hrb, hrl with
      | [], _, _ => simp [a1, kindB]
      | [x], _, _ => simp [a1, kindB]
      | x :: y :: t, hrb, hrl =>
        have hx := hrb x (by simp)
        have hy := hrb y (by simp)
        have w1 : W x = x := W_eq (by omega) (by omega)
        have w2 : W y = y := W_eq (by omega) (by omega)
        have w3 : W (y + 4) = y + 4 := W_eq (by omega) (by omega)
        have g1 : ¬ ((t.length : Int) + 1 + 1 < 2) := by omega
        have g2 : ((t.length : Int) + 1 + 1 == 0) = false := by simp; omega
        have g3 : (0 : Int) < (t.length : Int) + 1 + 1 := by omega
        have g4 : (1 : Int) < (t.length : Int) + 1 + 1 := by omega
        cases i1 : inB x 1 16 <;> cases i2 : inB y 1 32 <;> by_cases i3 : ((t.length : Int) + 1 + 1 < y + 4) <;> simp [a1, kindB, w1, w2, w3, i1, i2, i3, g1, g2, g3, g4, Fsl01In_at, ix]
    clear_value q1
    have hex : ∀ nx i a acc, scanAt b i (a, acc) → blockB (b.drop a) = none → Ok (RsScanOps_5 (fun y1 y2 y3 y4 y5 y6 y7 => q1 y1 y2 y3 y4 y5) (fun y8 y9 y10 y11 y12 => q1 y8 y9 y10 y11 y12) nx nl (b.map encB) (a : Int) (some false) (acc.map encOp)) (fun r => r = (scanRes b, [S.one C.unk])) := by
      intro nx i a acc hA hn
      have hq' := hq i a acc hA hn
      have f1 := Fsl17Block_at (cutNl nl) (b.drop a) ⟨bOk_drop hb _, by simp only [List.length_drop]; omega⟩
      simp only [hn, blkRes, List.map_drop] at f1
      obtain ⟨a1, a2, a3, _⟩ := hA
      simp only at a1 a2 a3
      by_cases hlt : a < b.length
      · exact ok_of (by simp [RsScanOps_5, a1, hlt, hT, f1]) hq'
      · exact ok_of (by simp [RsScanOps_5, hlt]) hq'
    refine iter_ok (h := hsScanOps_5) b.length (fun i (a : Nat × List OpR) f => f nl (b.map encB) (a.1 : Int) (some false) (a.2.map encOp)) (scanAt b) _ (by omega) ?_ ?_ (0, []) (scanAt_zero b)
    · intro nx ⟨a, acc⟩ hA
      refine hex nx _ a acc hA ?_
      cases hn : blockB (b.drop a) with
      | none => rfl
      | some r =>
        have := blockB_le hn
        have h1 := hA.1
        have h2 := hA.2.1
        simp only [List.length_drop] at this h1 h2
        omega
    · intro nx i ⟨a, acc⟩ hi hA hW hnx
      cases hn : blockB (b.drop a) with
      | none => exact hex nx i a acc hA hn
      | some r =>
        obtain ⟨l, k⟩ := r
        have hk := blockB_le hn
        have := hnx _ (scanAt_next hA hn)
        obtain ⟨a1, a2, a3, _⟩ := hA
        simp only [List.length_drop] at hk a1 a2 a3 this
        have f1 := Fsl17Block_at (cutNl nl) (b.drop a) ⟨bOk_drop hb _, by simp only [List.length_drop]; omega⟩
        simp only [hn, blkRes, List.map_drop] at f1
        have hlt : a < b.length := by omega
        have hk0 : ¬ (k : Int) < 0 := by omega
        have hw : W ((a : Int) + (k : Int)) = ((a + k : Nat) : Int) := by rw [W_eq (by omega) (by omega)]; omega
        refine ok_of ?_ this
        simp [-Int.natCast_add, RsScanOps_5, a1, hlt, hT, f1, hk0, in_scan (k : Int) a nl (some false) (b.map encB) acc l hk.2.2.1 (by omega), hw]
  obtain ⟨r, h1, rfl⟩ := key
  exact h1
end Go.Proofs.Gh.Gm
